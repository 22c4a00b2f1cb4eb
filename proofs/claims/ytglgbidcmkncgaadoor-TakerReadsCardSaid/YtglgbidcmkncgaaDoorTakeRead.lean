/- rillref.ReadTaker, walked. -/
import Derived.Test.YtglgbidcmkncgaaDoorTakeOpt3
import Derived.Test.YtglgbidcmkncgaaDoorTakeParse
import Derived.Test.YtglgbidcmkncgaaDoorTakeRef
import Derived.Test.YtglgbidcmkncgaaDoorPlanRead
namespace Go.Proofs.YtglgbidcmkncgaaDoor.Subj
open Go.RowKit

theorem option_any {W : World} {B T R g off : Nat} {r : List Tok} {nb fb : ByteArray} {src start ack wait : Int} {vb : Value} {back : List Int} {most pend : Int} {push : Bool} {w : World} (tn tf : List UInt8) (i : Nat) (hi : i < 7) (v : ByteArray) (hv : v.size ≤ 1024) (hR : R < w.heap.size)
    (h : TC W B T R g off r (tCells nb fb src start ack wait vb most pend push) vb back w) (hb : i ≤ 3 → back = [] ∧ vb = .slice none 0 0) :
    Calls Tryd.prog 69 #[.pointer (some ⟨T, 0, none⟩), .int .i64 i, .string v] w (OptPost W B T R g off r nb fb i v ⟨tn, tf, src, start, ack, wait, back, most, pend, push⟩ w) := by
  rcases i with _ | _ | _ | _ | _ | _ | _ | i
  · exact option_0 tn tf v hv h hb
  · exact option_1 tn tf v hv h hb
  · exact option_2 tn tf v hv h hb
  · exact option_3 tn tf v hv hR h hb
  · exact option_4 tn tf v hv h hb
  · exact option_5 tn tf v hv h hb
  · exact option_6 tn tf v hv h hb
  · omega

/-- The options' beginnings lie in block H. -/
def HeadsAt (H : Nat) (w : World) : Prop := ∀ k, k < 7 → w.cell? ⟨H, k, none⟩ = some (.string ⟨(heads.getD k []).toArray⟩)

theorem HeadsAt.below {H : Nat} {w w' : World} (h : HeadsAt H w) (hb : Below w.heap.size w w') : HeadsAt H w' := fun k hk =>
  (hb.cell (World.block_lt_of_cell? w _ (h k hk))).trans (h k hk)
theorem HeadsAt.touch {H : Nat} {F : Nat → Prop} {w w' : World} (h : HeadsAt H w) (ht : Heap.Touch F w w') (hn : ¬ F H) : HeadsAt H w' := fun k hk =>
  (ht.cell (World.block_lt_of_cell? w _ (h k hk)) hn).trans (h k hk)

def headCells : Array Value := #[.string ⟨#[102, 114, 111, 109, 61]⟩, .string ⟨#[97, 99, 107, 61]⟩, .string ⟨#[119, 97, 105, 116, 61]⟩, .string ⟨#[98, 97, 99, 107, 111, 102, 102, 61]⟩, .string ⟨#[109, 111, 115, 116, 61]⟩, .string ⟨#[112, 101, 110, 100, 105, 110, 103, 61]⟩, .string ⟨#[112, 117, 115, 104]⟩]

theorem headsAt_made (w : World) (t : TypeId) : HeadsAt w.heap.size (w.alloc (.cells headCells t)) := fun k hk => by
  rw [World.cell?_alloc_at _ _ _ _ rfl]
  rcases k with _ | _ | _ | _ | _ | _ | _ | k
  all_goals first | rfl | omega

theorem heads_short : ∀ k, ((⟨(heads.getD k []).toArray⟩ : ByteArray)).size ≤ 8 := by
  intro k
  by_cases h : k < 7
  · have : ∀ k, k < 7 → ((⟨(heads.getD k []).toArray⟩ : ByteArray)).size ≤ 8 := by decide
    exact this k h
  · have : heads.getD k [] = [] := by
      rw [List.getD_eq_getElem?_getD, List.getElem?_eq_none (by show 7 ≤ k; omega)]; rfl
    rw [this]; decide

theorem TC.start2 {W w1 w2 : World} {n f : Tok} {r : List Tok} {arr : Array Value} {g : Nat} (hm : ML W) (hI : Inv W w1) (hz : w1.heap[W.heap.size]? = some (.cells zeroT 37 (0, 0))) (hst : StrsAt w1 g 0 (n :: f :: r)) (hgW : W.heap.size < g)
    (hb : Below w1.heap.size w1 w2) (hT : w2.heap[w1.heap.size]? = some (.cells arr 37 (0, 0))) (R : Nat) (hR : w1.heap.size ≤ R) :
    TC W W.heap.size w1.heap.size R g 2 r arr (.slice none 0 0) [] w2 := by
  have hg : g < w1.heap.size := World.block_lt_of_cell? w1 _ (hst 0 (by simp))
  exact {
    ml := hm
    below := hI.2.trans (hb.mono hI.2.size)
    zero := (hb.block _ (Heap.heap_lt hz)).trans hz
    cells := hT
    rest := fun i hi => by
      have := (hst.below hb) (2 + i) (by simp; omega)
      rw [Nat.zero_add] at this
      rw [this]
      unfold strAt
      rw [Nat.add_comm 2 i]; rfl
    gsize := Nat.lt_of_lt_of_le hg hb.size
    row := Heap.Row.nil _ _ _
    newB := Nat.le_refl _
    newG := by omega
    gB := by omega
    BT := by omega
    gT := hg
    TR := hR
    nb := fun k hk => by simp [Heap.own, Value.ownBlock] at hk }

/-- Ahead of word k. -/
def RO (W : World) (B T H g : Nat) (nb fb : ByteArray) (tn tf : List UInt8) (E : Option TakerP) (r : List Tok) (k next : Nat) (w : World) : Prop :=
  ∃ src start ack wait vb back most pend push, next ≤ 7 ∧ (next ≤ 3 → back = [] ∧ vb = .slice none 0 0) ∧ TC W B T H g 2 r (tCells nb fb src start ack wait vb most pend push) vb back w ∧ HeadsAt H w ∧ H < w.heap.size ∧
    E = seqT next (r.drop k) ⟨tn, tf, src, start, ack, wait, back, most, pend, push⟩

/-- Within word x: what the search for its beginning has told. -/
def RI (E : Option TakerP) (x : Tok) (rest : List Tok) (t : TakerP) (next : Nat) (s9 s10 s11 : Value) : Prop :=
  (∃ i V, i ≤ 7 ∧ next ≤ i ∧ s9 = .int .i64 (i : Nat) ∧ s10 = .string V ∧ s11 = .bool false ∧ E = seqT i (x :: rest) t) ∨
  (∃ j V, j < 7 ∧ next ≤ j ∧ s9 = .int .i64 ((j + 1 : Nat) : Int) ∧ s10 = .string V ∧ s11 = .bool true ∧ V.size ≤ 1024 ∧ (heads.getD j []).isPrefixOf x = true ∧ V.data.toList = x.drop (heads.getD j []).length ∧ E = seqT j (x :: rest) t)

set_option maxHeartbeats 8000000 in
set_option maxRecDepth 100000 in
theorem readT_words (s : ByteArray) (w : World) (hs : s.size ≤ 1024) (hm : ML w) (n f : Tok) (r : List Tok) (hp : piecesC 32 s.data.toList = n :: f :: r) :
    Calls Tryd.prog 21 #[.string s] w (ParseTPost w (ansT (seqT 0 r (startT n f)))) := by
  have hsplit := pcs_any 32 s (w.alloc (.cells zeroT 37)) (by omega)
  rw [hp] at hsplit
  have hfl : f.length ≤ 1024 := by
    have := piecesC_mem 32 (s := s.data.toList) (t := f) (by rw [hp]; simp)
    simp at this; omega
  have hnl : n.length ≤ 1024 := by
    have := piecesC_mem 32 (s := s.data.toList) (t := n) (by rw [hp]; simp)
    simp at this; omega
  have hr1024 : ∀ t ∈ r, t.length ≤ 1024 := fun t ht => by
    have := piecesC_mem 32 (s := s.data.toList) (t := t) (by rw [hp]; simp [ht])
    simp at this; omega
  have hrl : r.length ≤ 1024 := by
    have := piecesC_size 32 s
    rw [hp] at this
    simp at this; omega
  unfold PcsPost at hsplit
  simp only [List.length_cons] at hsplit
  have hlen : (0 : Int) ≤ (r.length : Int) := by omega
  have hlen0 : (0 : Int) < (r.length : Int) + 1 + 1 := by omega
  have hlen1 : (1 : Int) < (r.length : Int) + 1 + 1 := by omega
  obtain ⟨E, hE⟩ : ∃ E, seqT 0 r (startT n f) = E := ⟨_, rfl⟩
  rw [hE]
  have HE := Lib.hid hE
  obtain ⟨ans, hans⟩ : ∃ ans, ansT E = ans := ⟨_, rfl⟩
  rw [hans]
  have HA := Lib.hid hans
  have HS := Lib.hid hsplit; have HM := Lib.hid hm; have HR := Lib.hid hr1024
  clear hsplit hp hm hE hr1024 hans
  go_enter Tryd.func21, Tryd.ntmps21
  go_wp2_with fail
  refine HS.out.mono ?_
  rintro e w1 ⟨g, cap, rfl, hcap, hst, hgn, hgl, hb⟩
  have hg0 : w1.cell? ⟨g, 0, none⟩ = some (.string ⟨n.toArray⟩) := hst 0 (by simp)
  have hg1 : w1.cell? ⟨g, 1, none⟩ = some (.string ⟨f.toArray⟩) := hst 1 (by simp)
  have hI1 : Inv w w1 := Inv.step (Inv.made HM.out _) hb
  have hz1 : w1.heap[w.heap.size]? = some (.cells zeroT 37 (0, 0)) := (hb.block _ (by simp)).trans (heap_alloc_new w _)
  have hgR : w.heap.size < g := by simp at hgn; omega
  have HST := Lib.hid hst; have HI1 := Lib.hid hI1; have HZ := Lib.hid hz1
  clear hst hI1 hz1 hb HS hgn
  have hba : Below w1.heap.size w1 (w1.alloc (.cells #[.string ⟨#[]⟩, .string ⟨#[]⟩, .int .i64 0, .int .i64 0, .int .i64 0, .int .i64 0, .slice none 0 0, .int .i64 0, .int .i64 0, .bool false] 37)) := by go_grown
  have a0 := (hba.cell (p := ⟨g, 0, none⟩) hgl).trans hg0
  have a1 := (hba.cell (p := ⟨g, 1, none⟩) hgl).trans hg1
  clear hba
  go_upto_region 6 with fail
  go_cut [5] from 23 to 29 (fun s5 wx => s5 = .pointer (some ⟨w1.heap.size, 0, none⟩) ∧ Below w1.heap.size w1 wx ∧ wx.heap.size = w1.heap.size + 1 ∧ wx.heap[w1.heap.size]? = some (.cells (tCells ⟨n.toArray⟩ ⟨f.toArray⟩ 0 0 2 0 (.slice none 0 0) 0 0 false) 37 (0, 0)))
  case first =>
    go_region
    all_goals go_wp2_with fail
    all_goals go_meet
    exact ⟨rfl, by go_grown, by simp, heap_alloc_new w1 _⟩
  case rest =>
    obtain ⟨rfl, hb2, hsz, hT⟩ := hcut
    have HB2 := Lib.hid hb2; have HT := Lib.hid hT
    clear hb2 hT a0 a1 hg0 hg1
    obtain ⟨w2, hw2⟩ : ∃ w2, w2 = wc.alloc (.cells headCells 9) := ⟨_, rfl⟩
    have hbw : Below wc.heap.size wc w2 := by rw [hw2]; exact (Below.refl _ _).alloc (Nat.le_refl _) _
    have hH : HeadsAt wc.heap.size w2 := by rw [hw2]; exact headsAt_made wc _
    have hHs : wc.heap.size < w2.heap.size := by rw [hw2]; simp
    obtain ⟨H, hHH⟩ : ∃ H, w1.heap.size + 1 = H := ⟨_, rfl⟩
    have hTC : TC w w.heap.size w1.heap.size wc.heap.size g 2 r (tCells ⟨n.toArray⟩ ⟨f.toArray⟩ 0 0 2 0 (.slice none 0 0) 0 0 false) (.slice none 0 0) [] w2 :=
      TC.start2 HM.out HI1.out HZ.out HST.out hgR (HB2.out.trans (hbw.mono (by omega))) ((hbw.block _ (Heap.heap_lt HT.out)).trans HT.out) wc.heap.size (by omega)
    rw [hsz, hHH] at hTC hH hHs
    have hRO : RO w w.heap.size w1.heap.size H g ⟨n.toArray⟩ ⟨f.toArray⟩ n f E r 0 0 w2 := ⟨0, 0, 2, 0, _, [], 0, 0, false, by decide, fun _ => ⟨rfl, rfl⟩, hTC, hH, hHs, HE.out.symm⟩
    have HRO := Lib.hid hRO
    have HW2 := Lib.hid hw2; have HHH := Lib.hid hHH
    clear hw2 hbw hH hHs hTC hRO HB2 HT HST HZ HI1 hHH
    go_upto_region 8 with fail
    have hw2 := HW2.out
    unfold headCells at hw2
    rw [← hw2, HHH.out]
    have hTH : w1.heap.size < H := by have := HHH.out; omega
    clear hw2 HW2 HHH hsz
    go_wp2_with fail
    go_loopw [7, 8, 9, 10, 11] (fun s7 s8 _ _ _ wr => ∃ k next : Nat, k ≤ r.length ∧ s7 = .int .i64 next ∧ s8 = .int .i64 ((2 + k : Nat) : Int) ∧ Hid (RO w w.heap.size w1.heap.size H g ⟨n.toArray⟩ ⟨f.toArray⟩ n f E r k next wr)) (fun _ s8 _ _ _ _ => 2 + r.length - (intOf s8).toNat)
    case atStart => exact ⟨0, 0, Nat.zero_le _, rfl, rfl, HRO⟩
    case round =>
      obtain ⟨k, next, hk, rfl, rfl, HB⟩ := hrel
      by_cases hlt : k < r.length
      · have hltz : ((2 + k : Nat) : Int) < (r.length : Int) + 1 + 1 := by omega
        have hltz2 : (0 : Int) ≤ ((2 + k : Nat) : Int) := by omega
        obtain ⟨src, start, ack, wait, vb, back, most, pend, push, hnx, hbk, hT, hH, hHs, hE⟩ := HB.out
        obtain ⟨x, hx⟩ : ∃ x, r.getD k [] = x := ⟨_, rfl⟩
        obtain ⟨rest, hrest⟩ : ∃ rest, r.drop (k + 1) = rest := ⟨_, rfl⟩
        have hdrop : r.drop k = x :: rest := by
          rw [← hx, ← hrest, List.drop_eq_getElem_cons hlt]
          simp [List.getD, hlt]
        rw [hdrop] at hE
        have hxl : x.length ≤ 1024 := by rw [← hx]; exact HR.out _ (by simp [List.getD, hlt])
        have c0 : wr.cell? ⟨g, 2 + k, none⟩ = some (.string ⟨x.toArray⟩) := by
          have := hT.rest k hlt
          rw [← hx]
          exact this
        obtain ⟨X, hX⟩ : ∃ X : ByteArray, X = ⟨x.toArray⟩ := ⟨_, rfl⟩
        rw [← hX] at c0
        have hXs : X.size ≤ 1024 := by rw [hX]; show x.toArray.size ≤ _; rw [List.size_toArray]; omega
        have hXd : X.data.toList = x := by rw [hX]
        have hri : RI E x rest ⟨n, f, src, start, ack, wait, back, most, pend, push⟩ next (.int .i64 next) (.string ⟨#[]⟩) (.bool false) := .inl ⟨next, ⟨#[]⟩, hnx, Nat.le_refl _, rfl, rfl, rfl, hE⟩
        have HRI := Lib.hid hri; have HT := Lib.hid hT; have HH := Lib.hid hH; have HBK := Lib.hid hbk; have HXD := Lib.hid hXd
        have HREST := Lib.hid hrest
        have HC0 := Lib.hid (fun wi (h : Below wr.heap.size wr wi) => (h.cell (p := ⟨g, 2 + k, none⟩) (World.block_lt_of_cell? wr _ c0)).trans c0)
        have HHC := Lib.hid (fun j (hj : j < 7) wi (h : Below wr.heap.size wr wi) => (hH.below h) j hj)
        have HBR := Lib.hid (Below.refl wr.heap.size wr)
        clear hbk hT hH hE hdrop hri hX hXd hrest hx HB c0 HRO
        go_wp2_with fail
        go_loopw [9, 10, 11] (fun s9 s10 s11 wi => Hid (RI E x rest ⟨n, f, src, start, ack, wait, back, most, pend, push⟩ next s9 s10 s11) ∧ Hid (Below wr.heap.size wr wi)) (fun s9 _ s11 _ => 8 - (intOf s9).toNat)
        case atStart => exact ⟨HRI, HBR⟩
        case round =>
          obtain ⟨HI, HW⟩ := hrel
          rcases HI.out with ⟨i, V, hi7, hni, rfl, rfl, rfl, hEi⟩ | ⟨j, V, hj7, hnj, rfl, rfl, rfl, hVs, hpj, hVd, hEj⟩
          · by_cases hlti : i < 7
            · have hltiz : (i : Int) < 7 := by omega
              have hiz : (0 : Int) ≤ i := by omega
              have c1 := HC0.out _ HW.out
              have c2 := HHC.out i hlti _ HW.out
              have hhs := heads_short i
              have hhd : (⟨(heads.getD i []).toArray⟩ : ByteArray).data.toList = heads.getD i [] := rfl
              obtain ⟨HD, hHD⟩ : ∃ HD : ByteArray, HD = ⟨(heads.getD i []).toArray⟩ := ⟨_, rfl⟩
              rw [← hHD] at c2 hhd
              cases hp : (heads.getD i []).isPrefixOf x with
              | true =>
                have hfr := fun w => front_yes X HD w (by unfold maxLen; omega) (by rw [HXD.out, hhd]; exact hp)
                rw [HXD.out, hhd] at hfr
                have hnew : RI E x rest ⟨n, f, src, start, ack, wait, back, most, pend, push⟩ next (.int .i64 ((i + 1 : Nat) : Int)) (.string ⟨(x.drop (heads.getD i []).length).toArray⟩) (.bool true) :=
                  .inr ⟨i, _, hlti, hni, rfl, rfl, rfl, by show (List.toArray _).size ≤ _; rw [List.size_toArray, List.length_drop]; omega, hp, rfl, hEi⟩
                have HF := Lib.hid hfr; have HN := Lib.hid hnew
                clear hEi hp hfr hnew hhs hhd hHD
                generalize (⟨(x.drop (heads.getD i []).length).toArray⟩ : ByteArray) = DR at *
                go_wp2_with fail
                go_quiet ((go_at_call 60; exact Calls.quiet_of_same (HF.out _)))
                go_wp2_with fail
                exact ⟨⟨HN, Lib.hid (below_drewN HW.out _)⟩, by simp [intOf]; omega⟩
              | false =>
                have hfr := fun w => front_no X HD w (by unfold maxLen; omega) (by rw [HXD.out, hhd]; exact hp)
                have hnew : RI E x rest ⟨n, f, src, start, ack, wait, back, most, pend, push⟩ next (.int .i64 ((i + 1 : Nat) : Int)) (.string ⟨#[]⟩) (.bool false) :=
                  .inl ⟨i + 1, _, by omega, by omega, rfl, rfl, rfl, by rw [hEi]; exact seqT_no hlti x rest _ hp⟩
                have HF := Lib.hid hfr; have HN := Lib.hid hnew
                clear hEi hp hfr hnew hhs hhd hHD
                go_wp2_with fail
                go_quiet ((go_at_call 60; exact Calls.quiet_of_same (HF.out _)))
                go_wp2_with fail
                exact ⟨⟨HN, Lib.hid (below_drewN HW.out _)⟩, by simp [intOf]; omega⟩
            · have hltiz : ¬ (i : Int) < 7 := by omega
              obtain rfl : i = 7 := by omega
              have hEn : E = none := by rw [hEi, seqT_end, if_neg (by simp)]
              have HEN := Lib.hid hEn
              have HTC := HT.out.next HW.out
              have hzero : wr.heap[w.heap.size]? = some (.cells #[.string ⟨#[]⟩, .string ⟨#[]⟩, .int .i64 0, .int .i64 0, .int .i64 0, .int .i64 0, .slice none 0 0, .int .i64 0, .int .i64 0, .bool false] 37 (0, 0)) := HTC.zero
              obtain ⟨z0, z1, z2, z3, z4, z5, z6, z7, z8, z9, zf⟩ := ten hzero
              have HZZ := Lib.hid hzero; have HTZ := Lib.hid HTC
              clear hzero HTC
              clear hEi hEn HI HRI HBR HC0 HHC HH HT HW
              go_wp2_with fail
              refine bodyPost_ret (v := .tuple #[.agg (tCells ⟨#[]⟩ ⟨#[]⟩ 0 0 0 0 (.slice none 0 0) 0 0 false), .int .i64 3]) (res_taker Tryd.results21 _ _ w.heap.size rfl rfl (set10 _ _ _ _ _ _ _ _ _ _ HZZ.out)) rfl ?_
              exact parseT_zero HTZ.out 3 (by rw [← HA.out, HEN.out]; rfl)
          · have hTC := HT.out.next HW.out
            have hHs2 : H < wr.heap.size := by have := HW.out.size; omega
            have HOPT := Lib.hid (option_any n f j hj7 V hVs hHs2 hTC (fun h => HBK.out (by omega)))
            have HHD := Lib.hid (HH.out.below HW.out)
            have HYES := Lib.hid (fun t' (h : optT j V.data.toList ⟨n, f, src, start, ack, wait, back, most, pend, push⟩ = some t') => (by rw [hEj, seqT_yes hj7 x rest _ hpj, ← hVd, h]; rfl : E = seqT (j + 1) rest t'))
            have HNO := Lib.hid (fun (h : optT j V.data.toList ⟨n, f, src, start, ack, wait, back, most, pend, push⟩ = none) => (by rw [hEj, seqT_yes hj7 x rest _ hpj, ← hVd, h]; rfl : E = none))
            clear hTC hVs hpj hVd hEj HI HRI HBR HC0 HHC HH HT HW HXD hXs hxl
            have hj0 : (0 : Int) ≤ j := by omega
            rcases Nat.lt_or_ge j 6 with hj6 | hj6
            all_goals
              first
                | have hjz : (j : Int) + 1 < 7 := by omega
                | have hjz : ¬ (j : Int) + 1 < 7 := by omega
              go_wp2_with fail
              refine HOPT.out.mono ?_
              rintro e w4 ⟨hto, b, rfl, src', start', ack', wait', vb', back', most', pend', push', hT4, hyes, hno, hb4⟩
              cases b with
              | true =>
                have hro : RO w w.heap.size w1.heap.size H g ⟨n.toArray⟩ ⟨f.toArray⟩ n f E r (k + 1) (j + 1) w4 :=
                  ⟨src', start', ack', wait', vb', back', most', pend', push', by omega, fun h => hb4 (by omega), hT4, HHD.out.touch hto (by omega), by have := hto.size; omega, by rw [HREST.out]; exact HYES.out _ (hyes rfl)⟩
                have HRO2 := Lib.hid hro
                clear hro hto hT4 hyes hno hb4 HOPT HHD HYES HNO
                go_wp2_with fail
                exact ⟨⟨k + 1, j + 1, by omega, by go_num, by go_num, HRO2⟩, by simp [intOf]; omega⟩
              | false =>
                have HEN := Lib.hid (HNO.out (hno rfl))
                have HTC := hT4
                have hzero : w4.heap[w.heap.size]? = some (.cells #[.string ⟨#[]⟩, .string ⟨#[]⟩, .int .i64 0, .int .i64 0, .int .i64 0, .int .i64 0, .slice none 0 0, .int .i64 0, .int .i64 0, .bool false] 37 (0, 0)) := HTC.zero
                obtain ⟨z0, z1, z2, z3, z4, z5, z6, z7, z8, z9, zf⟩ := ten hzero
                have HZZ := Lib.hid hzero; have HTZ := Lib.hid HTC
                clear hzero HTC
                clear hto hT4 hyes hno hb4 HOPT HHD HYES HNO
                go_wp2_with fail
                refine bodyPost_ret (v := .tuple #[.agg (tCells ⟨#[]⟩ ⟨#[]⟩ 0 0 0 0 (.slice none 0 0) 0 0 false), .int .i64 3]) (res_taker Tryd.results21 _ _ w.heap.size rfl rfl (set10 _ _ _ _ _ _ _ _ _ _ HZZ.out)) rfl ?_
                exact parseT_zero HTZ.out 3 (by rw [← HA.out, HEN.out]; rfl)
      · have hltz : ¬ ((2 + k : Nat) : Int) < (r.length : Int) + 1 + 1 := by omega
        obtain rfl : k = r.length := by omega
        obtain ⟨src, start, ack, wait, vb, back, most, pend, push, hnx, hbk, hT, hH, hHs, hE⟩ := HB.out
        rw [List.drop_length, seqT_nil] at hE
        have HES := Lib.hid hE
        have hints := ints_of_row hT.row
        obtain ⟨ao, cp, rfl, -⟩ := id hints
        have hnz : (⟨n.toArray⟩ : ByteArray).size ≤ maxLen := by show (List.toArray _).size ≤ _; rw [List.size_toArray]; unfold maxLen; omega
        have hfz : (⟨f.toArray⟩ : ByteArray).size ≤ 1048576 := by show (List.toArray _).size ≤ _; rw [List.size_toArray]; omega
        have HCK := Lib.hid (takerRef_any ⟨n.toArray⟩ ⟨f.toArray⟩ src start ack wait most pend push ao back.length cp back wr hnz hfz rfl hints hT.inv.1)
        have herr : takerErr (⟨n.toArray⟩ : ByteArray).data.toList (⟨f.toArray⟩ : ByteArray).data.toList src start ack wait back most pend = errT ⟨n, f, src, start, ack, wait, back, most, pend, push⟩ := rfl
        rw [herr] at HCK
        obtain ⟨er, her⟩ : ∃ er, errT ⟨n, f, src, start, ack, wait, back, most, pend, push⟩ = er := ⟨_, rfl⟩
        rw [her] at HCK
        have HER := Lib.hid her; have HC := Lib.hid hT
        obtain ⟨t0, t1, t2, t3, t4, t5, t6, t7, t8, t9, tf⟩ := ten hT.cells
        clear her herr hnz hfz hints hT hH hHs hE HB hbk HRO
        go_wp2_with fail
        refine HCK.out.mono ?_
        rintro e w5 ⟨rfl, hI5⟩
        have HC5 := Lib.hid (HC.out.next hI5.2)
        have hz5 : w5.heap[w.heap.size]? = some (.cells #[.string ⟨#[]⟩, .string ⟨#[]⟩, .int .i64 0, .int .i64 0, .int .i64 0, .int .i64 0, .slice none 0 0, .int .i64 0, .int .i64 0, .bool false] 37 (0, 0)) := HC5.out.zero
        have HZ5 := Lib.hid hz5
        obtain ⟨x0, x1, x2, x3, x4, x5, x6, x7, x8, x9, xf⟩ := ten hz5
        obtain ⟨s0, s1, s2, s3, s4, s5, s6, s7, s8, s9, sf⟩ := ten HC5.out.cells
        clear hz5 hI5 HCK t0 t1 t2 t3 t4 t5 t6 t7 t8 t9 tf HC
        by_cases he : er = 0
        · subst he
          go_wp2_with fail
          refine bodyPost_ret (v := .tuple #[.agg (tCells ⟨n.toArray⟩ ⟨f.toArray⟩ src start ack wait (.slice ao back.length cp) most pend push), .int .i64 0]) (res_taker Tryd.results21 _ _ w.heap.size rfl rfl (set10 _ _ _ _ _ _ _ _ _ _ HZ5.out)) rfl ?_
          exact parseT_good HM.out HC5.out (by rw [← HA.out, HES.out]; unfold ansT; simp only [HER.out]; rfl)
        · have hd : ((er : Int) != 0) = true := by simpa using he
          have HNE := Lib.hid he
          clear he
          go_wp2_with fail
          refine bodyPost_ret (v := .tuple #[.agg (tCells ⟨#[]⟩ ⟨#[]⟩ 0 0 0 0 (.slice none 0 0) 0 0 false), .int .i64 er]) (res_taker Tryd.results21 _ _ w.heap.size rfl rfl (set10 _ _ _ _ _ _ _ _ _ _ HZ5.out)) rfl ?_
          exact parseT_zero HC5.out er (by rw [← HA.out, HES.out]; unfold ansT; simp only [HER.out, HNE.out, if_false])
end Go.Proofs.YtglgbidcmkncgaaDoor.Subj
