/- taker.Parse, walked. -/
import Derived.Test.YtglgbidcmkncgaaDoorTakeBack
import Derived.Deep.RegionLaw
import Derived.Test.YtglgbidcmkncgaaDoorCut
import Derived.Deep.RegionHeld3
import Derived.Deep.CutRange
import Derived.Deep.RegionWith
namespace Go.Proofs.YtglgbidcmkncgaaDoor.Subj
open Go.RowKit

/-- Ahead of option i. -/
def PS (W : World) (B T R g : Nat) (nb fb : ByteArray) (tn tf : List UInt8) (E : Option TakerP) (i : Nat) (w : World) : Prop :=
  ∃ src start ack wait vb back most pend push r ok, (i ≤ 3 → back = [] ∧ vb = .slice none 0 0) ∧ (∀ x ∈ r, x.length ≤ 1024) ∧ TW W B T R g r ok (tCells nb fb src start ack wait vb most pend push) vb back w ∧ Good E i r ⟨tn, tf, src, start, ack, wait, back, most, pend, push⟩ ok

/-- Behind the question for option i. -/
def TOut (W : World) (B T R g : Nat) (nb fb : ByteArray) (tn tf : List UInt8) (E : Option TakerP) (i : Nat) (sv sb : Value) (w : World) : Prop :=
  ∃ src start ack wait vb back most pend push ok, (i ≤ 3 → back = [] ∧ vb = .slice none 0 0) ∧
    ((∃ x r' V, sv = .string V ∧ sb = .bool true ∧ V.data.toList = x.drop (heads.getD i []).length ∧ V.size ≤ 1024 ∧ (heads.getD i []).isPrefixOf x = true ∧ (∀ y ∈ r', y.length ≤ 1024) ∧
        TW W B T R g r' ok (tCells nb fb src start ack wait vb most pend push) vb back w ∧ Good E i (x :: r') ⟨tn, tf, src, start, ack, wait, back, most, pend, push⟩ ok) ∨
     (∃ r V, sv = .string V ∧ sb = .bool false ∧ (∀ y ∈ r, y.length ≤ 1024) ∧
        TW W B T R g r ok (tCells nb fb src start ack wait vb most pend push) vb back w ∧ Good E (i + 1) r ⟨tn, tf, src, start, ack, wait, back, most, pend, push⟩ ok))

theorem PS.take {W : World} {B T R g : Nat} {nb fb : ByteArray} {tn tf : List UInt8} {E : Option TakerP} {i : Nat} {w : World} (h : PS W B T R g nb fb tn tf E i w) (hi : i < 7) (hd : ByteArray) (hh : hd.data.toList = heads.getD i []) :
    Calls Tryd.prog 67 #[.pointer (some ⟨R, 0, none⟩), .string hd] w fun e w' => ∃ V b, e = .returned (.tuple #[.string V, .bool b]) ∧ TOut W B T R g nb fb tn tf E i (.string V) (.bool b) w' := by
  obtain ⟨src, start, ack, wait, vb, back, most, pend, push, r, ok, hb, hl, hT, hG⟩ := h
  refine (take_tw hd hT).mono ?_
  rw [hh]
  rintro e w' (⟨x, r', rfl, hp, rfl, h2⟩ | ⟨hn, ⟨v, rfl⟩, h2⟩)
  · refine ⟨_, _, rfl, src, start, ack, wait, vb, back, most, pend, push, ok, hb, .inl ⟨x, r', _, rfl, rfl, rfl, ?_, hp, fun y hy => hl y (by simp [hy]), h2, hG⟩⟩
    have := hl x (by simp)
    show (List.toArray _).size ≤ _
    rw [List.size_toArray, List.length_drop]; omega
  · exact ⟨_, _, rfl, src, start, ack, wait, vb, back, most, pend, push, ok, hb, .inr ⟨r, v, rfl, rfl, hl, h2, hG.no hi hn⟩⟩

theorem Good.num {E : Option TakerP} {i : Nat} {x : Tok} {r : List Tok} {t t' : TakerP} {ok : Bool} {v : Tok} (h : Good E i (x :: r) t ok) (hi : i < 7) (hx : (heads.getD i []).isPrefixOf x = true) (hv : v = x.drop (heads.getD i []).length)
    (ho : optT i v t = if 0 < numberOf v then Option.some t' else Option.none) : Good E (i + 1) r t' (ok && decide (0 < numberOf v)) := by
  subst hv
  by_cases h3 : 0 < numberOf (x.drop (heads.getD i []).length)
  · rw [decide_eq_true h3, Bool.and_true]
    exact Good.some h hi hx (by rw [ho, if_pos h3])
  · rw [decide_eq_false h3, Bool.and_false]
    exact Good.none h hi hx (by rw [ho, if_neg h3]) _

def pushW : Tok := [112, 117, 115, 104]

theorem seq_push_yes (r : List Tok) (t : TakerP) : seqT 6 (pushW :: r) t = if r = [] then some { t with push := true } else none := by
  rw [seqT_yes (by decide) pushW r t (by decide)]
  show (some { t with push := true }).bind (seqT 7 r) = _
  rw [Option.bind_some, seqT_end]

theorem seq_push_no {x : Tok} (h : x ≠ pushW) (r : List Tok) (t : TakerP) : seqT 6 (x :: r) t = if (x :: r) = [] then some t else none := by
  rw [if_neg (by simp)]
  cases hp : (heads.getD 6 []).isPrefixOf x with
  | false => rw [seqT_no (by decide) x r t hp, seqT_end, if_neg (by simp)]
  | true =>
    rw [seqT_yes (by decide) x r t hp]
    have hv : x.drop (heads.getD 6 []).length ≠ [] := by
      intro e
      rw [List.isPrefixOf_iff_prefix] at hp
      obtain ⟨d, hd⟩ := hp
      apply h
      rw [← hd] at e ⊢
      rw [List.drop_append_of_le_length (Nat.le_refl _), List.drop_length, List.nil_append] at e
      rw [e]; rfl
    show (if _ = [] then _ else _ : Option TakerP).bind _ = _
    rw [if_neg hv]; rfl

/-- Behind the question for "push". -/
def PQ (W : World) (B T R g : Nat) (nb fb : ByteArray) (tn tf : List UInt8) (E : Option TakerP) (c : Value) (w : World) : Prop :=
  ∃ src start ack wait vb back most pend push ok,
    ((∃ r', c = .bool true ∧ TW W B T R g (pushW :: r') ok (tCells nb fb src start ack wait vb most pend push) vb back w ∧ Good E 6 (pushW :: r') ⟨tn, tf, src, start, ack, wait, back, most, pend, push⟩ ok) ∨
     (∃ r, c = .bool false ∧ TW W B T R g r ok (tCells nb fb src start ack wait vb most pend push) vb back w ∧ (ok = true → E = if r = [] then some ⟨tn, tf, src, start, ack, wait, back, most, pend, push⟩ else none) ∧ (ok = false → E = none)))

/-- Behind all options. -/
def FS (W : World) (B T R g : Nat) (nb fb : ByteArray) (tn tf : List UInt8) (E : Option TakerP) (w : World) : Prop :=
  ∃ src start ack wait vb back most pend push r ok, TW W B T R g r ok (tCells nb fb src start ack wait vb most pend push) vb back w ∧ (ok = true → E = if r = [] then some ⟨tn, tf, src, start, ack, wait, back, most, pend, push⟩ else none) ∧ (ok = false → E = none)

theorem TC.start {W w1 w2 : World} {n f : Tok} {r : List Tok} {arr : Array Value} (hm : ML W) (hI : Inv W w1) (hz : w1.heap[W.heap.size]? = some (.cells zeroT 37 (0, 0))) (hst : StrsAt w1 (W.heap.size + 1) 0 (n :: f :: r))
    (hb : Below w1.heap.size w1 w2) (hT : w2.heap[w1.heap.size]? = some (.cells arr 37 (0, 0))) (R : Nat) (hR : w1.heap.size ≤ R) :
    TC W W.heap.size w1.heap.size R (W.heap.size + 1) 2 r arr (.slice none 0 0) [] w2 := by
  have hg : W.heap.size + 1 < w1.heap.size := World.block_lt_of_cell? w1 _ (hst 0 (by simp))
  exact {
    ml := hm
    below := hI.2.trans (hb.mono hI.2.size)
    zero := (hb.block _ (Heap.heap_lt hz)).trans hz
    cells := hT
    rest := fun i hi => by
      have := (hst.below hb) (2 + i) (by simp; omega)
      rw [Nat.zero_add] at this
      rw [this]
      unfold strAt
      rw [Nat.add_comm 2 i]; rfl
    gsize := Nat.lt_of_lt_of_le hg hb.size
    row := Heap.Row.nil _ _ _
    newB := Nat.le_refl _
    newG := by omega
    gB := by omega
    BT := by omega
    gT := hg
    TR := hR
    nb := fun k hk => by simp [Heap.own, Value.ownBlock] at hk }

/-- What is answered. -/
def ParseTPost (W : World) (x : Option TakerP × Nat) (e : Ending) (w : World) : Prop :=
  Inv W w ∧ ∃ (nm ft : ByteArray) (src start ack wait : Int) (vb : Value) (most pend : Int) (push : Bool), e = .returned (.tuple #[.agg (tCells nm ft src start ack wait vb most pend push), .int .i64 x.2]) ∧
    match x.1 with
    | some t => nm.data.toList = t.name ∧ ft.data.toList = t.filt ∧ src = t.src ∧ start = t.start ∧ ack = t.ack ∧ wait = t.wait ∧ Ints w vb t.back ∧ most = t.most ∧ pend = t.pend ∧ push = t.push
    | none => nm = ⟨#[]⟩ ∧ ft = ⟨#[]⟩ ∧ src = 0 ∧ start = 0 ∧ ack = 0 ∧ wait = 0 ∧ vb = .slice none 0 0 ∧ most = 0 ∧ pend = 0 ∧ push = false

theorem ints_of_row {w : World} {vb : Value} {back : List Int} (h : Heap.Row w 3 1 vb back.length (intsV back)) : Ints w vb back := by
  rcases h.2 with ⟨rfl, h2⟩ | ⟨g, off, cap, cur, rfl, hg, h1, h2, h3, h4⟩
  · have : back = [] := List.length_eq_zero_iff.1 h2
    subst this
    exact ⟨none, 0, rfl, Nat.le_refl _, fun hn => absurd rfl hn⟩
  · refine ⟨_, cap, rfl, h1, fun _ => ⟨g, off, rfl, fun k hk => ?_⟩⟩
    have := (h.cell k (by omega)).1
    rw [this]
    simp [intsV, List.getD, hk]

/-- What is told where a consumer's plan and an error are told. -/
theorem res_taker {fn : Func} (hf : fn.results = #[.cell 2 37, .tmp 3]) (tmps : Array Value) (w : World) (R : Nat) {a0 a1 a2 a3 a4 a5 a6 a7 a8 a9 k : Value}
    (h2 : tmps.getD 2 undef = .pointer (some ⟨R, 0, none⟩)) (h3 : tmps.getD 3 undef = k) (hR : w.heap[R]? = some (.cells #[a0, a1, a2, a3, a4, a5, a6, a7, a8, a9] 37 (0, 0))) :
    (results fn tmps).run Tryd.prog w = .ok (.tuple #[.agg #[a0, a1, a2, a3, a4, a5, a6, a7, a8, a9], k]) w := by
  obtain ⟨z0, z1, z2, z3, z4, z5, z6, z7, z8, z9, zf⟩ := ten hR
  simp only [Array.getD_eq_getD_getElem?] at h2 h3
  simp [results, hf, go_sem, h2, h3, z0, z1, z2, z3, z4, z5, z6, z7, z8, z9]

theorem parseT_zero {W w1 : World} {B T R g off : Nat} {r : List Tok} {arr : Array Value} {vb : Value} {back : List Int} (h : TC W B T R g off r arr vb back w1) {x : Option TakerP × Nat} (k : Nat) (hx : x = (none, k)) :
    ParseTPost W x (.returned (.tuple #[.agg (tCells ⟨#[]⟩ ⟨#[]⟩ 0 0 0 0 (.slice none 0 0) 0 0 false), .int .i64 k])) (((((((((((w1.setCell ⟨B, 0, none⟩ (.string ⟨#[]⟩)).setCell ⟨B, 1, none⟩ (.string ⟨#[]⟩)).setCell ⟨B, 2, none⟩ (.int .i64 0)).setCell ⟨B, 3, none⟩ (.int .i64 0)).setCell ⟨B, 4, none⟩ (.int .i64 0)).setCell ⟨B, 5, none⟩ (.int .i64 0)).setCell ⟨B, 6, none⟩ (.slice none 0 0)).setCell ⟨B, 7, none⟩ (.int .i64 0)).setCell ⟨B, 8, none⟩ (.int .i64 0)).setCell ⟨B, 9, none⟩ (.bool false))) := by
  subst hx
  have hb := below10 (.string ⟨#[]⟩) (.string ⟨#[]⟩) (.int .i64 0) (.int .i64 0) (.int .i64 0) (.int .i64 0) (.slice none 0 0) (.int .i64 0) (.int .i64 0) (.bool false) h.below h.newB
  exact ⟨⟨h.ml.below hb, hb⟩, ⟨#[]⟩, ⟨#[]⟩, 0, 0, 0, 0, .slice none 0 0, 0, 0, false, rfl, rfl, rfl, rfl, rfl, rfl, rfl, rfl, rfl, rfl, rfl⟩

theorem parseT_good {W w1 : World} {B T R g off : Nat} {r : List Tok} {nb fb : ByteArray} {src start ack wait : Int} {vb : Value} {most pend : Int} {push : Bool} {back : List Int} (hM : ML W) (h : TC W B T R g off r (tCells nb fb src start ack wait vb most pend push) vb back w1) {x : Option TakerP × Nat}
    (hx : x = (some ⟨nb.data.toList, fb.data.toList, src, start, ack, wait, back, most, pend, push⟩, 0)) :
    ParseTPost W x (.returned (.tuple #[.agg (tCells nb fb src start ack wait vb most pend push), .int .i64 0])) (((((((((((w1.setCell ⟨B, 0, none⟩ (.string nb)).setCell ⟨B, 1, none⟩ (.string fb)).setCell ⟨B, 2, none⟩ (.int .i64 src)).setCell ⟨B, 3, none⟩ (.int .i64 start)).setCell ⟨B, 4, none⟩ (.int .i64 ack)).setCell ⟨B, 5, none⟩ (.int .i64 wait)).setCell ⟨B, 6, none⟩ vb).setCell ⟨B, 7, none⟩ (.int .i64 most)).setCell ⟨B, 8, none⟩ (.int .i64 pend)).setCell ⟨B, 9, none⟩ (.bool push))) := by
  subst hx
  have hb := below10 (.string nb) (.string fb) (.int .i64 src) (.int .i64 start) (.int .i64 ack) (.int .i64 wait) vb (.int .i64 most) (.int .i64 pend) (.bool push) h.below h.newB
  have ht := touch10 (w := w1) (B := B) (.string nb) (.string fb) (.int .i64 src) (.int .i64 start) (.int .i64 ack) (.int .i64 wait) vb (.int .i64 most) (.int .i64 pend) (.bool push)
  refine ⟨⟨hM.below hb, hb⟩, nb, fb, src, start, ack, wait, vb, most, pend, push, rfl, rfl, rfl, rfl, rfl, rfl, rfl, ?_, rfl, rfl, rfl⟩
  exact ints_of_row (h.row.kept (ht.same fun k hk hf => by have h1 := h.nb k hk; have h2 := h.TR; have h3 := h.BT; omega))

set_option maxHeartbeats 8000000 in
set_option maxRecDepth 100000 in
theorem parseT_words (s : ByteArray) (w : World) (hs : s.size ≤ 1024) (hm : ML w) (n f : Tok) (r : List Tok) (hp : piecesC 32 s.data.toList = n :: f :: r) :
    Calls Tryd.prog 20 #[.string s] w (ParseTPost w (ansT (seqT 0 r (startT n f)))) := by
  have hsplit := split_c 32 s (w.alloc (.cells zeroT 37)) (by omega) ((Inv.made hm _).1)
  rw [hp] at hsplit
  have hfl : f.length ≤ 1024 := by
    have := piecesC_mem 32 (s := s.data.toList) (t := f) (by rw [hp]; simp)
    simp at this; omega
  have hnl : n.length ≤ 1024 := by
    have := piecesC_mem 32 (s := s.data.toList) (t := n) (by rw [hp]; simp)
    simp at this; omega
  have hr1024 : ∀ t ∈ r, t.length ≤ 1024 := fun t ht => by
    have := piecesC_mem 32 (s := s.data.toList) (t := t) (by rw [hp]; simp [ht])
    simp at this; omega
  simp only [List.length_cons] at hsplit
  have hlen : (0 : Int) ≤ (r.length : Int) := by omega
  have hlen0 : (0 : Int) < (r.length : Int) + 1 + 1 := by omega
  have hlen1 : (1 : Int) < (r.length : Int) + 1 + 1 := by omega
  obtain ⟨E, hE⟩ : ∃ E, seqT 0 r (startT n f) = E := ⟨_, rfl⟩
  rw [hE]
  have HE := Lib.hid hE
  obtain ⟨ans, hans⟩ : ∃ ans, ansT E = ans := ⟨_, rfl⟩
  rw [hans]
  have HA := Lib.hid hans
  clear hans
  have HS := Lib.hid hsplit; have HM := Lib.hid hm; have HR := Lib.hid hr1024
  clear hsplit hp hm hE hr1024
  go_enter Tryd.func20, Tryd.ntmps20
  go_wp2_with fail
  refine HS.out.mono ?_
  rintro e w1 ⟨rfl, hst, hb⟩
  simp only [World.alloc, Array.size_push] at hst
  have hg0 := hst 0 (by simp)
  have hg1 := hst 1 (by simp)
  have hI1 : Inv w w1 := Inv.step (Inv.made HM.out _) hb
  have hz1 : w1.heap[w.heap.size]? = some (.cells zeroT 37 (0, 0)) := (hb.block _ (by simp)).trans (heap_alloc_new w _)
  have HST := Lib.hid hst; have HI1 := Lib.hid hI1; have HZ := Lib.hid hz1
  clear hst hI1 hz1 hb HS
  simp [strAt] at hg0 hg1
  have hw1 : w.heap.size + 1 < w1.heap.size := World.block_lt_of_cell? w1 _ hg0
  have hba : Below w1.heap.size w1 (w1.alloc (.cells #[.string ⟨#[]⟩, .string ⟨#[]⟩, .int .i64 0, .int .i64 0, .int .i64 0, .int .i64 0, .slice none 0 0, .int .i64 0, .int .i64 0, .bool false] 37)) := by go_grown
  have a0 := (hba.cell (p := ⟨w.heap.size + 1, 0, none⟩) hw1).trans hg0
  have a1 := (hba.cell (p := ⟨w.heap.size + 1, 1, none⟩) hw1).trans hg1
  clear hba
  go_upto_region 6 with fail
  go_cut [5] from 28 to 34 (fun s5 wx => s5 = .pointer (some ⟨w1.heap.size, 0, none⟩) ∧ Below w1.heap.size w1 wx ∧ wx.heap.size = w1.heap.size + 1 ∧ wx.heap[w1.heap.size]? = some (.cells (tCells ⟨n.toArray⟩ ⟨f.toArray⟩ 0 0 0 0 (.slice none 0 0) 0 0 false) 37 (0, 0)))
  case first =>
    go_region
    all_goals go_wp2_with fail
    all_goals go_meet
    exact ⟨rfl, by go_grown, by simp, heap_alloc_new w1 _⟩
  case rest =>
    obtain ⟨rfl, hb2, hsz, hT⟩ := hcut
    obtain ⟨R, hRR⟩ : ∃ R, wc.heap.size = R := ⟨_, rfl⟩
    have HB2 := Lib.hid hb2; have HT := Lib.hid hT
    have HRR := Lib.hid hRR
    clear hb2 hT a0 a1 hg0 hg1 hRR
    go_upto_region 7 with fail
    go_cut [4, 6] from 18 to 38 (fun _ s6 wx => s6 = .pointer (some ⟨R, 0, none⟩) ∧ TW w w.heap.size w1.heap.size R (w.heap.size + 1) r true (tCells ⟨n.toArray⟩ ⟨f.toArray⟩ 0 0 0 0 (.slice none 0 0) 0 0 false) (.slice none 0 0) [] wx)
    case first =>
      have hTC := fun w2 (h : Below wc.heap.size wc w2) => TC.start HM.out HI1.out HZ.out HST.out (HB2.out.trans (h.mono (by omega))) ((h.block _ (Heap.heap_lt HT.out)).trans HT.out) wc.heap.size (by omega)
      have hnew := fun o => heap_alloc_new wc o
      rw [HRR.out] at hTC hnew
      have HTC := Lib.hid hTC; have HNEW := Lib.hid hnew
      have hR2 : w1.heap.size + 1 = R := by rw [← HRR.out, hsz]
      clear hTC hnew
      go_wp2_with fail
      all_goals go_meet
      · have hr0 : r = [] := by assumption
        exact ⟨rfl, 0, (HTC.out _ (by rw [← HRR.out]; go_grown)).moved (fun h0 => by simp [hr0] at h0), by omega, by rw [hr0]; exact HNEW.out _⟩
      · exact ⟨rfl, 2, HTC.out _ (by rw [← HRR.out]; go_grown), by omega, HNEW.out _⟩
    case rest =>
    obtain ⟨rfl, hTW⟩ := hcut
    have HTW := Lib.hid hTW
    have hg00 : Good E 0 r ⟨n, f, 0, 0, 2, 0, [], 0, 0, false⟩ true := ⟨fun _ => HE.out.symm, fun e => (by cases e)⟩
    have HG0 := Lib.hid hg00
    clear hg00
    clear hTW HB2 HT HRR HST HI1 HZ hsz
    go_wp2_with fail
    refine (from_tw HR.out HTW.out HG0.out).mono ?_
    rintro e w2 ⟨rfl, src0, start0, r0, ok0, hl0, hT0, hG0⟩
    have HL0 := Lib.hid hl0; have HT0 := Lib.hid hT0; have HGG := Lib.hid hG0
    clear hl0 hT0 hG0 HG0 HTW HR HE
    go_wp2_with fail
    refine (ack_tw HL0.out HT0.out HGG.out).mono ?_
    rintro e w3 ⟨rfl, ack0, r1, ok1, hl1, hT1, hG1⟩
    have hps : PS w w.heap.size w1.heap.size R (w.heap.size + 1) ⟨n.toArray⟩ ⟨f.toArray⟩ n f E 2 w3 := ⟨src0, start0, ack0, 0, _, [], 0, 0, false, r1, ok1, fun _ => ⟨rfl, rfl⟩, hl1, hT1, hG1⟩
    have HPS := Lib.hid hps
    clear hps hl1 hT1 hG1 HL0 HT0 HGG
    clear hw1
    go_upto_region 10 with fail
    go_cut [7, 8] from 43 to 47 (fun s7 s8 wx => TOut w w.heap.size w1.heap.size R (w.heap.size + 1) ⟨n.toArray⟩ ⟨f.toArray⟩ n f E 2 s7 s8 wx)
    case first =>
      go_wp2_with fail
      refine (HPS.out.take (by decide) ⟨#[119, 97, 105, 116, 61]⟩ rfl).mono ?_
      rintro e w' ⟨V, b, rfl, h⟩
      go_wp2_with fail
      go_meet
      exact h
    case rest =>
    clear HPS
    have HCUT := Lib.hid hcut
    clear hcut
    go_upto_if 48 with fail
    go_cut [] from 48 to 52 (fun wx => PS w w.heap.size w1.heap.size R (w.heap.size + 1) ⟨n.toArray⟩ ⟨f.toArray⟩ n f E 3 wx)
    case first =>
      obtain ⟨src, start, ack, wait, vb, back, most, pend, push, ok, hb, ⟨x, r', V, rfl, rfl, hV, hVs, hp, hl, hT, hG⟩ | ⟨r', V, rfl, rfl, hl, hT, hG⟩⟩ := HCUT.out
      · have HN := Lib.hid (number_tw V (by unfold maxLen; omega) hT)
        have HG2 := Lib.hid (hG.num (by decide) hp hV (t' := ⟨n, f, src, start, ack, numberOf V.data.toList, back, most, pend, push⟩) rfl)
        have HL2 := Lib.hid hl; have HBK := Lib.hid hb
        clear hV hVs hp hl hT hG hb HCUT
        go_wp2_with fail
        refine HN.out.mono ?_
        rintro e w4 ⟨rfl, h3⟩
        have H3 := Lib.hid h3
        obtain ⟨off, hc, hTR, hr⟩ := id h3
        obtain ⟨y0, y1, y2, y3, y4, y5, y6, y7, y8, y9, yf⟩ := ten hc.cells
        clear h3 hc hr HN
        go_wp2_with fail
        go_meet
        have hb := HBK.out
        exact ⟨src, start, ack, _, vb, back, most, pend, push, r', _, fun _ => hb (by decide), HL2.out, H3.out.setT 5 (.int .i64 _), HG2.out⟩
      · have hps : PS w w.heap.size w1.heap.size R (w.heap.size + 1) ⟨n.toArray⟩ ⟨f.toArray⟩ n f E 3 wc := ⟨src, start, ack, wait, vb, back, most, pend, push, r', ok, fun _ => hb (by decide), hl, hT, hG⟩
        have HH := Lib.hid hps
        clear hps hl hT hG hb HCUT
        go_wp2_with fail
        go_meet
        exact HH.out
    case rest =>
    have HPS := Lib.hid hcut
    clear hcut HCUT
    go_upto_region 13 with fail
    go_cut [9, 10] from 53 to 57 (fun s7 s8 wx => TOut w w.heap.size w1.heap.size R (w.heap.size + 1) ⟨n.toArray⟩ ⟨f.toArray⟩ n f E 3 s7 s8 wx)
    case first =>
      go_wp2_with fail
      refine (HPS.out.take (by decide) ⟨#[98, 97, 99, 107, 111, 102, 102, 61]⟩ rfl).mono ?_
      rintro e w' ⟨V, b, rfl, h⟩
      go_wp2_with fail
      go_meet
      exact h
    case rest =>
    clear HPS
    have HCUT := Lib.hid hcut
    clear hcut
    go_upto_if 58 with fail
    go_cut [12] from 58 to 74 (fun _ wx => PS w w.heap.size w1.heap.size R (w.heap.size + 1) ⟨n.toArray⟩ ⟨f.toArray⟩ n f E 4 wx)
    case first =>
      obtain ⟨src, start, ack, wait, vb, back, most, pend, push, ok, hb, ⟨x, r', V, rfl, rfl, hV, hVs, hp, hl, hT, hG⟩ | ⟨r', V, rfl, rfl, hl, hT, hG⟩⟩ := HCUT.out
      · obtain ⟨rfl, rfl⟩ := hb (by decide)
        obtain ⟨off0, hc0, hTR0, hr0⟩ := id hT
        have HSP := Lib.hid (split_c 44 V wc (by omega) hc0.inv.1)
        obtain ⟨pcs, hpcs⟩ : ∃ pcs, piecesC 44 V.data.toList = pcs := ⟨_, rfl⟩
        rw [hpcs] at HSP
        have hpl : ∀ k, (pcs.getD k []).length ≤ 1024 := fun k => by
          by_cases hk : k < pcs.length
          · have h2 := piecesC_mem 44 (s := V.data.toList) (t := pcs.getD k []) (by rw [hpcs]; simp [List.getD, hk])
            have h3 : V.data.toList.length = V.size := by simp
            omega
          · simp [List.getD, show pcs.length ≤ k by omega]
        have hpn : pcs.length ≤ 1025 := by
          have := piecesC_len (c := 44) V.data.toList
          have h4 := List.count_le_length (a := (44 : UInt8)) (l := V.data.toList)
          have h3 : V.data.toList.length = V.size := by simp
          rw [hpcs] at this
          omega
        have hgood : ∀ bk : List Int, bk = pcs.map numberOf → Good E 4 r' ⟨n, f, src, start, ack, wait, bk, most, pend, push⟩ (ok && pcs.all fun x => decide (0 < numberOf x)) := by
          intro bk hbk
          have ho : optT 3 (x.drop (heads.getD 3 []).length) ⟨n, f, src, start, ack, wait, [], most, pend, push⟩ = if (pcs.all fun x => decide (0 < numberOf x)) = true then Option.some ⟨n, f, src, start, ack, wait, bk, most, pend, push⟩ else Option.none := by
            rw [← hV, hbk]
            show (if ((piecesC 44 V.data.toList).all fun x => decide (0 < numberOf x)) = true then Option.some _ else Option.none) = _
            rw [hpcs]
            rfl
          cases hq : (pcs.all fun x => decide (0 < numberOf x)) with
          | true => rw [Bool.and_true]; exact Good.some hG (by decide) hp (by rw [ho, hq]; rfl)
          | false => rw [Bool.and_false]; exact Good.none hG (by decide) hp (by rw [ho, hq]; rfl) _
        have HGO := Lib.hid hgood; have HL2 := Lib.hid hl; have HPL := Lib.hid hpl; have HT0 := Lib.hid hT
        have hsz0 := Heap.heap_lt hr0
        clear hV hVs hp hl hT hG hb HCUT hgood hpl hpcs hc0 hr0
        go_wp2_with fail
        refine HSP.out.mono ?_
        rintro e w4 ⟨rfl, hst4, hb4⟩
        obtain ⟨gs, hgs⟩ : ∃ gs, wc.heap.size = gs := ⟨_, rfl⟩
        rw [hgs] at hst4 hsz0 ⊢
        have hgl : gs < w4.heap.size ∨ pcs.length = 0 := by
          by_cases h0 : pcs.length = 0
          · exact .inr h0
          · exact .inl (World.block_lt_of_cell? w4 _ (hst4 0 (by omega)))
        have hT4 : TW w w.heap.size w1.heap.size R (w.heap.size + 1) r' ok (tCells ⟨n.toArray⟩ ⟨f.toArray⟩ src start ack wait (.slice none 0 0) most pend push) (.slice none 0 0) [] w4 := by
          obtain ⟨off, hc, hTR, hr⟩ := HT0.out
          exact ⟨off, hc.next hb4, hTR, (hb4.block _ (Heap.heap_lt hr)).trans hr⟩
        have hBL : BL w w.heap.size w1.heap.size R (w.heap.size + 1) gs ⟨n.toArray⟩ ⟨f.toArray⟩ src start ack wait most pend push r' ok pcs 0 w4 := ⟨_, ok, hT4, by simp, hst4, hgl, hsz0, fun j hj => by simp [Heap.own, Value.ownBlock] at hj⟩
        have HBL := Lib.hid hBL
        clear hst4 hb4 hgs hgl hT4 hBL HT0 HSP
        obtain ⟨i0, hi, hz0, hz1, hz2⟩ := info_parts info_int
        go_wp2_with fail
        go_loopw [12, 62] (fun _ s62 wr => ∃ k : Nat, k ≤ pcs.length ∧ s62 = .int .i64 k ∧ Hid (BL w w.heap.size w1.heap.size R (w.heap.size + 1) gs ⟨n.toArray⟩ ⟨f.toArray⟩ src start ack wait most pend push r' ok pcs k wr)) (fun _ i _ => pcs.length - (intOf i).toNat)
        case atStart => exact ⟨0, Nat.zero_le _, rfl, HBL⟩
        case round =>
          obtain ⟨k, hk, rfl, HB⟩ := hrel
          by_cases hlt : k < pcs.length
          · have hltz : (k : Int) < pcs.length := by omega
            obtain ⟨vbk, okk, hT, hok, hst, hgl, hRg, ho⟩ := HB.out
            have hgl' : gs < wr.heap.size := by omega
            have c0 := hst k hlt
            rw [Nat.zero_add] at c0
            have hsz : (strAt pcs k).size ≤ maxLen := by
              have := HPL.out k
              show (List.toArray (pcs.getD k [])).size ≤ _
              rw [List.size_toArray]; unfold maxLen; omega
            obtain ⟨off, hc, hTR, hr⟩ := id hT
            have hnm := number_r R (.slice (some ⟨w.heap.size + 1, off, none⟩) r'.length r'.length) okk (strAt pcs k) wr.drew hsz hr rfl
            have hstr : (strAt pcs k).data.toList = pcs.getD k [] := rfl
            rw [hstr] at hnm
            have hnext := BL.next (z := numberOf (pcs.getD k [])) hT hok hst hgl' hRg ho hlt rfl
            have hbl : ((pcs.take k).map numberOf).length = k := by rw [List.length_map, List.length_take]; omega
            have hgrow := fun w' hw' => back_grow (w' := w') hT hst hgl' hRg ho (okk && decide (0 < numberOf (pcs.getD k []))) (numberOf (pcs.getD k [])) hw'
            rw [hbl] at hgrow
            have y6 : wr.cell? ⟨w1.heap.size, 6, none⟩ = some vbk := cell_of_row wr _ 6 _ _ (0, 0) hc.cells
            have HNM := Lib.hid hnm; have HGR := Lib.hid hgrow; have HNX := Lib.hid hnext
            clear hT hok hst hRg ho hsz hc hr hnm hnext hbl hgrow hstr hgl HB
            generalize strAt pcs k = TT at *
            generalize numberOf (pcs.getD k []) = z at *
            generalize (pcs.take k).map numberOf = bk at *
            go_upto_region 18 with fail
            go_region_law (first
              | (refine Heap.step_append_row _ rfl (.tmp 67) (.tmp 71) 35 rfl 3 i0 _ 1 8 Tryd.underlying35 hi hz0 hz1 hz2 rfl (by decide) vbk k (intsV bk) (by simp [Act.eval, Act.put]) (HGR.out _ HW'.out).2.2.2.1 ⟨w'.heap.size, 0, none⟩ 1 1 [.int .i64 z] (by simp [Act.eval, Act.put]) rfl (news_int w' z _) (by simp [Value.oneCell']) (by unfold maxLen; omega) (by omega) ?_
                 intro v2 w2 r2 t2 o2
                 obtain ⟨a2, c2, rfl⟩ := r2.slice
                 have hnx := HNX.out _ w2 ((HGR.out _ HW'.out).2.2.2.2 _ w2 r2 t2 o2)
                 obtain ⟨x0, x1, x2, x3, x4, x5, x6, x7, x8, x9, xf⟩ := ten hnx.1
                 have HFIN := Lib.hid hnx.2
                 clear hnx r2 t2 o2)
              | (go_simp; go_at_call 68; (refine HNM.out.mono ?_); rintro e w' ⟨rfl, hw'⟩; obtain ⟨_, hc1, hc2, _, _⟩ := HGR.out w' hw'; have k6 := cell_of_row w' _ 6 _ _ (0, 0) hc1; have k6a := cell_of_row _ _ 6 _ _ (0, 0) hc2; have HW' := Lib.hid hw'; clear hw' hc1 hc2))
            all_goals
              go_wp2_with fail
              exact ⟨⟨k + 1, by omega, by go_num, HFIN⟩, by simp [intOf]; omega⟩
          · have hltz : ¬ (k : Int) < pcs.length := by omega
            obtain rfl : k = pcs.length := by omega
            have hps : PS w w.heap.size w1.heap.size R (w.heap.size + 1) ⟨n.toArray⟩ ⟨f.toArray⟩ n f E 4 wr := by
              obtain ⟨vbk, okk, hT, hok, _⟩ := HB.out
              rw [List.take_of_length_le (Nat.le_refl _)] at hT hok
              exact ⟨src, start, ack, wait, vbk, _, most, pend, push, r', okk, fun h => by omega, HL2.out, hT, by rw [hok]; exact HGO.out _ rfl⟩
            have HH := Lib.hid hps
            clear hps
            go_wp2_with fail
            go_meet
            exact HH.out
      · have hps : PS w w.heap.size w1.heap.size R (w.heap.size + 1) ⟨n.toArray⟩ ⟨f.toArray⟩ n f E 4 wc := ⟨src, start, ack, wait, vb, back, most, pend, push, r', ok, fun h => by omega, hl, hT, hG⟩
        have HH := Lib.hid hps
        clear hps hl hT hG hb HCUT
        go_wp2_with fail
        go_meet
        exact HH.out
    case rest =>
    have HPS := Lib.hid hcut
    clear hcut HCUT
    go_upto_region 20 with fail
    go_cut [13, 14] from 75 to 79 (fun s7 s8 wx => TOut w w.heap.size w1.heap.size R (w.heap.size + 1) ⟨n.toArray⟩ ⟨f.toArray⟩ n f E 4 s7 s8 wx)
    case first =>
      go_wp2_with fail
      refine (HPS.out.take (by decide) ⟨#[109, 111, 115, 116, 61]⟩ rfl).mono ?_
      rintro e w' ⟨V, b, rfl, h⟩
      go_wp2_with fail
      go_meet
      exact h
    case rest =>
    clear HPS
    have HCUT := Lib.hid hcut
    clear hcut
    go_upto_if 80 with fail
    go_cut [] from 80 to 84 (fun wx => PS w w.heap.size w1.heap.size R (w.heap.size + 1) ⟨n.toArray⟩ ⟨f.toArray⟩ n f E 5 wx)
    case first =>
      obtain ⟨src, start, ack, wait, vb, back, most, pend, push, ok, hb, ⟨x, r', V, rfl, rfl, hV, hVs, hp, hl, hT, hG⟩ | ⟨r', V, rfl, rfl, hl, hT, hG⟩⟩ := HCUT.out
      · have HN := Lib.hid (number_tw V (by unfold maxLen; omega) hT)
        have HG2 := Lib.hid (hG.num (by decide) hp hV (t' := ⟨n, f, src, start, ack, wait, back, numberOf V.data.toList, pend, push⟩) rfl)
        have HL2 := Lib.hid hl; have HBK := Lib.hid hb
        clear hV hVs hp hl hT hG hb HCUT
        go_wp2_with fail
        refine HN.out.mono ?_
        rintro e w4 ⟨rfl, h3⟩
        have H3 := Lib.hid h3
        obtain ⟨off, hc, hTR, hr⟩ := id h3
        obtain ⟨y0, y1, y2, y3, y4, y5, y6, y7, y8, y9, yf⟩ := ten hc.cells
        clear h3 hc hr HN
        go_wp2_with fail
        go_meet
        have hb := HBK.out
        exact ⟨src, start, ack, wait, vb, back, _, pend, push, r', _, fun h => by omega, HL2.out, H3.out.setT 7 (.int .i64 _), HG2.out⟩
      · have hps : PS w w.heap.size w1.heap.size R (w.heap.size + 1) ⟨n.toArray⟩ ⟨f.toArray⟩ n f E 5 wc := ⟨src, start, ack, wait, vb, back, most, pend, push, r', ok, fun h => by omega, hl, hT, hG⟩
        have HH := Lib.hid hps
        clear hps hl hT hG hb HCUT
        go_wp2_with fail
        go_meet
        exact HH.out
    case rest =>
    have HPS := Lib.hid hcut
    clear hcut HCUT
    go_upto_region 23 with fail
    go_cut [15, 16] from 85 to 89 (fun s7 s8 wx => TOut w w.heap.size w1.heap.size R (w.heap.size + 1) ⟨n.toArray⟩ ⟨f.toArray⟩ n f E 5 s7 s8 wx)
    case first =>
      go_wp2_with fail
      refine (HPS.out.take (by decide) ⟨#[112, 101, 110, 100, 105, 110, 103, 61]⟩ rfl).mono ?_
      rintro e w' ⟨V, b, rfl, h⟩
      go_wp2_with fail
      go_meet
      exact h
    case rest =>
    clear HPS
    have HCUT := Lib.hid hcut
    clear hcut
    go_upto_if 90 with fail
    go_cut [] from 90 to 94 (fun wx => PS w w.heap.size w1.heap.size R (w.heap.size + 1) ⟨n.toArray⟩ ⟨f.toArray⟩ n f E 6 wx)
    case first =>
      obtain ⟨src, start, ack, wait, vb, back, most, pend, push, ok, hb, ⟨x, r', V, rfl, rfl, hV, hVs, hp, hl, hT, hG⟩ | ⟨r', V, rfl, rfl, hl, hT, hG⟩⟩ := HCUT.out
      · have HN := Lib.hid (number_tw V (by unfold maxLen; omega) hT)
        have HG2 := Lib.hid (hG.num (by decide) hp hV (t' := ⟨n, f, src, start, ack, wait, back, most, numberOf V.data.toList, push⟩) rfl)
        have HL2 := Lib.hid hl; have HBK := Lib.hid hb
        clear hV hVs hp hl hT hG hb HCUT
        go_wp2_with fail
        refine HN.out.mono ?_
        rintro e w4 ⟨rfl, h3⟩
        have H3 := Lib.hid h3
        obtain ⟨off, hc, hTR, hr⟩ := id h3
        obtain ⟨y0, y1, y2, y3, y4, y5, y6, y7, y8, y9, yf⟩ := ten hc.cells
        clear h3 hc hr HN
        go_wp2_with fail
        go_meet
        have hb := HBK.out
        exact ⟨src, start, ack, wait, vb, back, most, _, push, r', _, fun h => by omega, HL2.out, H3.out.setT 8 (.int .i64 _), HG2.out⟩
      · have hps : PS w w.heap.size w1.heap.size R (w.heap.size + 1) ⟨n.toArray⟩ ⟨f.toArray⟩ n f E 6 wc := ⟨src, start, ack, wait, vb, back, most, pend, push, r', ok, fun h => by omega, hl, hT, hG⟩
        have HH := Lib.hid hps
        clear hps hl hT hG hb HCUT
        go_wp2_with fail
        go_meet
        exact HH.out
    case rest =>
    have HPS := Lib.hid hcut
    clear hcut HCUT
    go_upto_region 26 with fail
    go_cut [109] from 95 to 108 (fun c wx => PQ w w.heap.size w1.heap.size R (w.heap.size + 1) ⟨n.toArray⟩ ⟨f.toArray⟩ n f E c wx)
    case first =>
      obtain ⟨src, start, ack, wait, vb, back, most, pend, push, r', ok, _, hl, hT, hG⟩ := HPS.out
      obtain ⟨off, hc, hTR, hr⟩ := id hT
      cases r' with
      | nil =>
        obtain ⟨y0, y1, yf⟩ := two hr
        have hps : PQ w w.heap.size w1.heap.size R (w.heap.size + 1) ⟨n.toArray⟩ ⟨f.toArray⟩ n f E (.bool false) wc := ⟨src, start, ack, wait, vb, back, most, pend, push, ok, .inr ⟨[], rfl, hT, fun e => by rw [hG.1 e]; rfl, hG.2⟩⟩
        have HH := Lib.hid hps
        clear hps hl hT hG hc hr HPS
        go_wp2_with fail
        go_meet
        exact HH.out
      | cons x r' =>
        obtain ⟨y0, y1, yf⟩ := two hr
        have c0 : wc.cell? ⟨w.heap.size + 1, off, none⟩ = some (.string ⟨x.toArray⟩) := hc.rest 0 (by simp)
        have h1 : (0 : Int) < (r'.length : Int) + 1 := by omega
        obtain ⟨V, hV⟩ : ∃ V : ByteArray, V = ⟨x.toArray⟩ := ⟨_, rfl⟩
        obtain ⟨hV1, hV2⟩ := text_is hV
        rw [← hV] at c0
        cases hq : (V.toList == [112, 117, 115, 104]) with
        | true =>
          have hxp : x = pushW := by rw [hV1] at hq; simpa [pushW] using hq
          have hps : PQ w w.heap.size w1.heap.size R (w.heap.size + 1) ⟨n.toArray⟩ ⟨f.toArray⟩ n f E (.bool true) wc := ⟨src, start, ack, wait, vb, back, most, pend, push, ok, .inl ⟨r', rfl, by rw [← hxp]; exact hT, by rw [← hxp]; exact hG⟩⟩
          have HH := Lib.hid hps
          clear hps hl hT hG hc hr HPS hV hV1 hV2 hxp
          simp only [List.length_cons] at y0
          go_wp2_with fail
          go_meet
          exact HH.out
        | false =>
          have hxp : x ≠ pushW := by rw [hV1] at hq; simpa [pushW] using hq
          have hps : PQ w w.heap.size w1.heap.size R (w.heap.size + 1) ⟨n.toArray⟩ ⟨f.toArray⟩ n f E (.bool false) wc := ⟨src, start, ack, wait, vb, back, most, pend, push, ok, .inr ⟨x :: r', rfl, hT, fun e => by rw [hG.1 e]; exact seq_push_no hxp _ _, hG.2⟩⟩
          have HH := Lib.hid hps
          clear hps hl hT hG hc hr HPS hV hV1 hV2 hxp
          simp only [List.length_cons] at y0
          go_wp2_with fail
          go_meet
          exact HH.out
    case rest =>
    have HCUT := Lib.hid hcut
    clear hcut HPS
    go_upto_if 109 with fail
    go_cut [] from 110 to 118 (fun wx => FS w w.heap.size w1.heap.size R (w.heap.size + 1) ⟨n.toArray⟩ ⟨f.toArray⟩ n f E wx)
    case first =>
      obtain ⟨src, start, ack, wait, vb, back, most, pend, push, ok, ⟨r', rfl, hT, hG⟩ | ⟨r', rfl, hT, hG1, hG2⟩⟩ := HCUT.out
      · obtain ⟨off, hc, hTR, hr⟩ := id hT
        have hE := fun e => (hG.1 e).trans (seq_push_yes r' ⟨n, f, src, start, ack, wait, back, most, pend, push⟩)
        have hst := fun o' (ho : 0 < r'.length → o' = off + 1) => TW.setR ⟨off, hc.setT 9 (.bool true), hTR, ((Heap.Touch.refl (· = w1.heap.size) wc).setCell (p := ⟨w1.heap.size, 9, none⟩) (.inl rfl) (.bool true)).block _ (Heap.heap_lt hr) (by omega) |>.trans hr, ho⟩
        obtain ⟨y0, y1, yf⟩ := two hr
        obtain ⟨t0, t1, t2, t3, t4, t5, t6, t7, t8, t9, tf⟩ := ten hc.cells
        have hne : R ≠ w1.heap.size := by omega
        have hne2 : w1.heap.size ≠ R := by omega
        have HE2 := Lib.hid hE; have HE3 := Lib.hid hG.2; have HSET := Lib.hid hst
        clear hE hG hst hT hc hr HCUT
        simp only [List.length_cons] at y0
        have h1 : (1 : Int) ≤ (r'.length : Int) + 1 := by omega
        go_wp2_with fail
        go_region
        by_cases hr0 : r' = []
        · rw [if_pos hr0]
          have hh := (HSET.out off (fun h => by simp [hr0] at h)).drewn
          go_wp2_with fail
          go_meet
          exact ⟨src, start, ack, wait, vb, back, most, pend, true, r', ok, hh, HE2.out, HE3.out⟩
        · rw [if_neg hr0]
          have hh := (HSET.out (off + 1) (fun _ => rfl)).drewn
          go_wp2_with fail
          go_meet
          exact ⟨src, start, ack, wait, vb, back, most, pend, true, r', ok, hh, HE2.out, HE3.out⟩
      · have hps : FS w w.heap.size w1.heap.size R (w.heap.size + 1) ⟨n.toArray⟩ ⟨f.toArray⟩ n f E wc := ⟨src, start, ack, wait, vb, back, most, pend, push, r', ok, hT, hG1, hG2⟩
        have HH := Lib.hid hps
        clear hps hT hG1 hG2 HCUT
        go_wp2_with fail
        go_meet
        exact HH.out
    case rest =>
    have HFS := Lib.hid hcut
    clear hcut HCUT
    obtain ⟨src, start, ack, wait, vb, back, most, pend, push, r', ok, hT, hG1, hG2⟩ := HFS.out
    obtain ⟨off, hc, hTR, hr⟩ := id hT
    obtain ⟨y0, y1, yf⟩ := two hr
    obtain ⟨t0, t1, t2, t3, t4, t5, t6, t7, t8, t9, tf⟩ := ten hc.cells
    have hzero : wc.heap[w.heap.size]? = some (.cells #[.string ⟨#[]⟩, .string ⟨#[]⟩, .int .i64 0, .int .i64 0, .int .i64 0, .int .i64 0, .slice none 0 0, .int .i64 0, .int .i64 0, .bool false] 37 (0, 0)) := hc.zero
    obtain ⟨z0, z1, z2, z3, z4, z5, z6, z7, z8, z9, zf⟩ := ten hzero
    have HC := Lib.hid hc; have HZ := Lib.hid hzero
    by_cases hgood : ok = true ∧ r' = []
    · obtain ⟨rfl, rfl⟩ := hgood
      have hE := hG1 rfl
      rw [if_pos rfl] at hE
      have HES := Lib.hid hE
      clear hE
      have hints := ints_of_row hc.row
      obtain ⟨ao, cap, rfl, -⟩ := id hints
      have hnz : (⟨n.toArray⟩ : ByteArray).size ≤ maxLen := by show (List.toArray _).size ≤ _; rw [List.size_toArray]; unfold maxLen; omega
      have hfz : (⟨f.toArray⟩ : ByteArray).size ≤ 1048576 := by show (List.toArray _).size ≤ _; rw [List.size_toArray]; omega
      have HCK := Lib.hid (takerCheck_any ⟨n.toArray⟩ ⟨f.toArray⟩ src start ack wait most pend push ao back.length cap back wc hnz hfz rfl hints hc.inv.1)
      have herr : takerErr (⟨n.toArray⟩ : ByteArray).data.toList (⟨f.toArray⟩ : ByteArray).data.toList src start ack wait back most pend = errT ⟨n, f, src, start, ack, wait, back, most, pend, push⟩ := rfl
      rw [herr] at HCK
      obtain ⟨er, her⟩ : ∃ er, errT ⟨n, f, src, start, ack, wait, back, most, pend, push⟩ = er := ⟨_, rfl⟩
      rw [her] at HCK
      have HER := Lib.hid her
      simp only [List.length_nil] at y0
      clear her herr hnz hfz hints hT hG1 hG2 hc hr hzero HFS
      go_wp2_with fail
      refine HCK.out.mono ?_
      rintro e w5 ⟨rfl, hI5⟩
      have HC5 := Lib.hid (HC.out.next hI5.2)
      have hz5 := hI5.blk HZ.out
      have HZ5 := Lib.hid hz5
      obtain ⟨x0, x1, x2, x3, x4, x5, x6, x7, x8, x9, xf⟩ := ten hz5
      obtain ⟨s0, s1, s2, s3, s4, s5, s6, s7, s8, s9, sf⟩ := ten HC5.out.cells
      clear hz5 hI5 HCK z0 z1 z2 z3 z4 z5 z6 z7 z8 z9 zf t0 t1 t2 t3 t4 t5 t6 t7 t8 t9 tf y0 y1 yf HC HZ
      by_cases he : er = 0
      · subst he
        go_wp2_with fail
        refine bodyPost_ret (v := .tuple #[.agg (tCells ⟨n.toArray⟩ ⟨f.toArray⟩ src start ack wait (.slice ao back.length cap) most pend push), .int .i64 0]) (res_taker Tryd.results20 _ _ w.heap.size rfl rfl (set10 _ _ _ _ _ _ _ _ _ _ HZ5.out)) rfl ?_
        exact parseT_good HM.out HC5.out (by rw [← HA.out, HES.out]; unfold ansT; simp only [HER.out]; rfl)
      · have hd : ((er : Int) != 0) = true := by simpa using he
        have HNE := Lib.hid he
        clear he
        go_wp2_with fail
        refine bodyPost_ret (v := .tuple #[.agg (tCells ⟨#[]⟩ ⟨#[]⟩ 0 0 0 0 (.slice none 0 0) 0 0 false), .int .i64 er]) (res_taker Tryd.results20 _ _ w.heap.size rfl rfl (set10 _ _ _ _ _ _ _ _ _ _ HZ5.out)) rfl ?_
        exact parseT_zero HC5.out er (by rw [← HA.out, HES.out]; unfold ansT; simp only [HER.out, HNE.out, if_false])
    · have hEn : E = none := by
        cases hok : ok with
        | false => exact hG2 hok
        | true =>
          rw [hG1 hok, if_neg (fun e => hgood ⟨hok, e⟩)]
      have HEN := Lib.hid hEn
      clear hEn hT hG1 hG2 hc hr hzero HFS
      cases hok : ok with
      | false =>
        subst hok
        clear hgood
        go_wp2_with fail
        refine bodyPost_ret (v := .tuple #[.agg (tCells ⟨#[]⟩ ⟨#[]⟩ 0 0 0 0 (.slice none 0 0) 0 0 false), .int .i64 3]) (res_taker Tryd.results20 _ _ w.heap.size rfl rfl (set10 _ _ _ _ _ _ _ _ _ _ HZ.out)) rfl ?_
        exact parseT_zero HC.out 3 (by rw [← HA.out, HEN.out]; rfl)
      | true =>
        subst hok
        cases r' with
        | nil => exact absurd ⟨rfl, rfl⟩ hgood
        | cons x r' =>
          have h1 : (0 : Int) < (r'.length : Int) + 1 := by omega
          simp only [List.length_cons] at y0
          clear hgood
          go_wp2_with fail
          refine bodyPost_ret (v := .tuple #[.agg (tCells ⟨#[]⟩ ⟨#[]⟩ 0 0 0 0 (.slice none 0 0) 0 0 false), .int .i64 3]) (res_taker Tryd.results20 _ _ w.heap.size rfl rfl (set10 _ _ _ _ _ _ _ _ _ _ HZ.out)) rfl ?_
          exact parseT_zero HC.out 3 (by rw [← HA.out, HEN.out]; rfl)
end Go.Proofs.YtglgbidcmkncgaaDoor.Subj
