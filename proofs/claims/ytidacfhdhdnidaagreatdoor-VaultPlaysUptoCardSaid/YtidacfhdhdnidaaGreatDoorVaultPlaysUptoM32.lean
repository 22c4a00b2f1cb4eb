/- Parts of the proof, joined: The reference's chest: Sums.; store.seek, Next, Last, walked. -/
import Derived.Test.YtidacfhdhdnidaaGreatDoorVaultPlaysUptoM31
namespace Go.Proofs.YtidacfhdhdnidaaGreatDoor.Sto
open Go.RowKit Heap
open Subj (Tok ML pieces takes)
open Rec (Rc recErr far)
open Idx (Ents ptrV)

theorem bytes_rec (k q t : Int) (s h d : ByteArray) (w : World) (hz : s.size + h.size + d.size ≤ 9223372036854775807) :
    Calls Tryz.prog 165 #[.agg #[.int .i64 k, .int .i64 q, .int .i64 t, .string s, .string h, .string d]] w fun e w' => e = .returned (.int .i64 ((s.size + h.size + d.size : Nat) : Int)) ∧ Below w.heap.size w w' := by
  go_enter Tryz.func165, Tryz.ntmps165
  go_wp2
  go_ret
  exact ⟨ret_int (by first | rfl | (simp; done) | omega), (Below.refl _ _).alloc (Nat.le_refl _) _⟩

section
variable {W w w1 : World} {C : Nat} {v : Value} {L : List Rc} {last : Int} {I : Ents}

def firstQ (L : List Rc) : Int := (L.head?.map (·.seq)).getD 0

theorem drop_step {L : List Rc} {j : Nat} {p : Rc} (hp : L[j]? = some p) : bytesR (L.drop j) = bytesR (L.drop (j + 1)) + sizeR p ∧ firstQ (L.drop j) = p.seq := by
  obtain ⟨hj, e⟩ := List.getElem?_eq_some_iff.1 hp
  have hd : L.drop j = p :: L.drop (j + 1) := by rw [← e, ← List.drop_eq_getElem_cons hj]
  rw [hd]
  refine ⟨?_, rfl⟩
  unfold bytesR
  rw [List.map_cons, List.sum_cons]; omega

set_option maxHeartbeats 8000000 in
set_option maxRecDepth 100000 in
theorem sums_ch (h : ChAt W C v L last w) (hR : Right L last I) : Calls Tryz.prog 119 #[.pointer (some ⟨C, 0, none⟩)] w fun e w' => e = .returned (sumsV L last) ∧ Below w.heap.size w w' := by
  obtain ⟨n, hn⟩ : ∃ n, L.length = n := ⟨_, rfl⟩
  have hn200 : n ≤ 200 := by rw [← hn]; exact hR.few
  have hbtl : ∀ j, bytesR (L.drop j) ≤ 200000 := fun j => by
    have h1 := bytes_le (L := L.drop j) fun r hr => hR.good r (List.mem_of_mem_drop hr)
    have h2 : (L.drop j).length ≤ 200 := by rw [List.length_drop]; omega
    omega
  obtain ⟨va, vc, hv⟩ := h.row.slice
  rw [hn] at hv
  subst hv
  obtain ⟨w0, hw0⟩ : ∃ w0, w0 = w.alloc (.cells #[.int .i64 0, .int .i64 0, .int .i64 0, .int .i64 0] 115) := ⟨_, rfl⟩
  have hb0 : Below w.heap.size w w0 := by rw [hw0]; exact (Below.refl _ _).alloc (Nat.le_refl _) _
  have hrs : w0.heap[w.heap.size]? = some (.cells #[.int .i64 0, .int .i64 0, .int .i64 0, .int .i64 0] 115 (0, 0)) := by rw [hw0]; exact heap_alloc_new w _
  obtain ⟨rb, hrb⟩ : ∃ rb, w.heap.size = rb := ⟨_, rfl⟩
  rw [hrb] at hrs
  have h0 := h.next hb0
  obtain ⟨d0, d1, df⟩ := twoC h0.cell
  have hlt0 := heap_lt h0.cell
  have HC := Lib.hid h; have HB0 := Lib.hid hb0; have HRS := Lib.hid hrs; have HRB := Lib.hid hrb; have HN := Lib.hid hn; have HR := Lib.hid hR; have HBT := Lib.hid hbtl
  clear h h0 hb0 hrs hrb hn hR hbtl
  unfold sumsV
  rw [HN.out]
  have hfq : (L.head?.map (·.seq)).getD 0 = firstQ (L.drop 0) := rfl
  rw [hfq, show bytesR L = bytesR (L.drop 0) from rfl]
  clear hfq
  go_enter Tryz.func119, Tryz.ntmps119
  go_upto_region 1 with fail
  rw [← hw0, HRB.out]
  clear hw0
  go_region_held3 (fun w' => w'.cell? ⟨C, 0, none⟩ = some (.slice va n vc) ∧ w'.cell? ⟨C, 1, none⟩ = some (.int .i64 last)) (first | (with_reducible exact ⟨d0, d1⟩) | go_keep) (fail)
  rename_i hheld
  clear hheld
  obtain ⟨w3, hw3⟩ : ∃ w3, w3 = (w0.alloc (.cells #[.int .i64 (n : Nat), .int .i64 0, .int .i64 0, .int .i64 last] 115)).drew := ⟨_, rfl⟩
  have hb3 : Below w0.heap.size w0 w3 := by rw [hw3]; exact ((Below.refl _ _).alloc (Nat.le_refl _) _).drew
  have hs3 : w3.heap[w0.heap.size]? = some (.cells #[.int .i64 (n : Nat), .int .i64 0, .int .i64 0, .int .i64 last] 115 (0, 0)) := by rw [hw3]; exact heap_alloc_new w0 _
  rw [← hw3]
  have HB3 := Lib.hid (HB0.out.trans (hb3.mono HB0.out.size))
  have HR3 := Lib.hid ((hb3.block rb (heap_lt HRS.out)).trans HRS.out)
  have hrbl : rb < w0.heap.size := heap_lt HRS.out
  obtain ⟨sb, hsb⟩ : ∃ sb, w0.heap.size = sb := ⟨_, rfl⟩
  rw [hsb] at hs3 hrbl ⊢
  have hCsb : C < sb := by omega
  have HS3 := Lib.hid (show w3.heap[sb]? = some (.cells #[.int .i64 (n : Nat), .int .i64 (bytesR (L.drop n) : Nat), .int .i64 (firstQ (L.drop n)), .int .i64 last] 115 (0, 0)) from by
    rw [List.drop_of_length_le (by rw [HN.out]; exact Nat.le_refl _)]; exact hs3)
  have h3 := HC.out.next HB3.out
  obtain ⟨c0, c1, cf⟩ := twoC h3.cell
  have hlt := heap_lt h3.cell
  clear hw3 hb3 hs3 hsb d0 d1 df hlt0 h3 HRS
  go_wp2_with fail
  clear c0 c1 cf hlt
  go_loopw [4] (fun iv wr => ∃ j : Nat, j ≤ n ∧ iv = .int .i64 ((j : Int) - 1) ∧ Hid (Below w.heap.size w wr) ∧ Hid (wr.heap[rb]? = some (.cells #[.int .i64 0, .int .i64 0, .int .i64 0, .int .i64 0] 115 (0, 0))) ∧
    Hid (wr.heap[sb]? = some (.cells #[.int .i64 (n : Nat), .int .i64 (bytesR (L.drop j) : Nat), .int .i64 (firstQ (L.drop j)), .int .i64 last] 115 (0, 0)))) (fun iv _ => (intOf iv + 1).toNat)
  case atStart => exact ⟨n, Nat.le_refl _, rfl, HB3, HR3, HS3⟩
  case round =>
    obtain ⟨j, hj, hiv, HB, HRb, HSb⟩ := hrel
    clear HB3 HR3 HS3
    have HCr := Lib.hid (HC.out.next HB.out)
    by_cases hj0 : 0 < j
    · obtain ⟨i, rfl⟩ : ∃ i, j = i + 1 := ⟨j - 1, by omega⟩
      rw [show (((i + 1 : Nat) : Int) - 1) = (i : Int) by omega] at hiv
      subst hiv
      have hin : i < n := by omega
      have hinz : (i : Int) < n := by omega
      have hi0 : (0 : Int) ≤ i := by omega
      obtain ⟨p, hpk⟩ : ∃ p, L[i]? = some p := ⟨_, List.getElem?_eq_getElem (by rw [HN.out]; exact hin)⟩
      rcases HCr.out.row.2 with ⟨_, h0⟩ | ⟨g, off, cap, cur, ev, hg, _⟩
      · rw [HN.out] at h0; omega
      rw [HN.out] at ev
      simp only [Value.slice.injEq, true_and] at ev
      obtain ⟨rfl, rfl⟩ := ev
      have hrow := HCr.out.row
      rw [HN.out] at hrow
      obtain ⟨m0, m1, m2, m3, m4, m5⟩ := cells_rec hrow i p hpk hin
      obtain ⟨sp, hdp, dp, hpp⟩ := parts p
      rw [hpp.s1] at m3
      rw [hpp.h1] at m4
      rw [hpp.d1] at m5
      have hgp := HR.out.good p (List.mem_of_getElem? hpk)
      have hgq := good_parts hgp.1 hgp.2
      have hsr : sizeR p = sp.size + hdp.size + dp.size := by unfold sizeR; rw [hpp.s3, hpp.h3, hpp.d3]
      have hsz : sizeR p ≤ 400 := by unfold sizeR; omega
      have hrs := fun w1 => bytes_rec p.kind p.seq p.time sp hdp dp w1 (by rw [← hsr]; omega)
      rw [← hsr] at hrs
      obtain ⟨hd1, hd2⟩ := drop_step hpk
      have hbt := HBT.out (i + 1)
      obtain ⟨bt, hbte⟩ : ∃ bt, bytesR (L.drop (i + 1)) = bt := ⟨_, rfl⟩
      obtain ⟨fq, hfqe⟩ : ∃ fq, firstQ (L.drop (i + 1)) = fq := ⟨_, rfl⟩
      obtain ⟨sz, hsze⟩ : ∃ sz, sizeR p = sz := ⟨_, rfl⟩
      rw [hbte, hsze] at hd1
      rw [hbte, hfqe] at HSb
      rw [hbte] at hbt
      rw [hsze] at hrs hsz
      have HRS := Lib.hid hrs; have HD1 := Lib.hid hd1; have HD2 := Lib.hid hd2
      obtain ⟨c0, c1, cf⟩ := twoC HCr.out.cell
      have hlt := heap_lt HCr.out.cell
      obtain ⟨x0, x1, x2, x3, xf⟩ := fourS HSb.out
      have hsl := heap_lt HSb.out
      have hrl := heap_lt HRb.out
      have hgl := World.block_lt_of_cell? wr _ m1
      simp only at hgl
      have hwr : IntKind.i64.wrap ((bt : Int) + (sz : Int)) = (bt : Int) + (sz : Int) := IntWalk.i64_in _ (by omega)
      have HPK := Lib.hid hpk
      clear hpk hg hrow hpp hgp hgq hsr hrs hd1 hd2 hbte hfqe hsze
      go_upto_region 5 with fail
      go_cut [] from 25 to 36 (fun wx => Hid (Below w.heap.size w wx ∧ wx.heap[rb]? = some (.cells #[.int .i64 0, .int .i64 0, .int .i64 0, .int .i64 0] 115 (0, 0)) ∧ wx.heap[sb]? = some (.cells #[.int .i64 (n : Nat), .int .i64 ((bt : Int) + (sz : Int)), .int .i64 fq, .int .i64 last] 115 (0, 0))))
      case first =>
        go_region_law (first
          | (go_simp; go_at_call 165; ((with_reducible refine (HRS.out _).mono ?_); rintro e w7 ⟨rfl, hb7⟩; have hS7 := (hb7.block sb hsl).trans HSb.out; have hR7 := (hb7.block rb hrl).trans HRb.out; obtain ⟨k0, k1, k2, k3, kf⟩ := fourS hS7; have hsl7 := heap_lt hS7; have HS7 := Lib.hid hS7; have HR7 := Lib.hid hR7; have HB7 := Lib.hid (HB.out.trans (((Below.refl wr.heap.size wr).drew.trans hb7).mono HB.out.size)); clear hS7 hR7 hb7)))
        all_goals
          go_wp2_with fail
          go_meet
          exact Lib.hid ⟨HB7.out.setCell (by simp only; have := HRB.out; omega) _, (heap_setCell_other _ _ _ _ (by simp only; omega)).trans HR7.out, heap_setCell_same _ _ _ _ _ _ HS7.out⟩
      case rest =>
      obtain ⟨h1, h2, h3⟩ := hcut.out
      have HCc := Lib.hid (HC.out.next h1)
      obtain ⟨c0, c1, cf⟩ := twoC HCc.out.cell
      have hlt := heap_lt HCc.out.cell
      obtain ⟨x0, x1, x2, x3, xf⟩ := fourS h3
      have hsl := heap_lt h3
      have hrowc := HCc.out.row
      rw [HN.out] at hrowc
      obtain ⟨m0, m1, m2, m3, m4, m5⟩ := cells_rec hrowc i p HPK.out hin
      have HFI := Lib.hid (show Below w.heap.size w (wc.setCell ⟨sb, 2, none⟩ (.int .i64 p.seq)) ∧ (wc.setCell ⟨sb, 2, none⟩ (.int .i64 p.seq)).heap[rb]? = some (.cells #[.int .i64 0, .int .i64 0, .int .i64 0, .int .i64 0] 115 (0, 0)) ∧
          (wc.setCell ⟨sb, 2, none⟩ (.int .i64 p.seq)).heap[sb]? = some (.cells #[.int .i64 (n : Nat), .int .i64 (bytesR (L.drop i) : Nat), .int .i64 (firstQ (L.drop i)), .int .i64 last] 115 (0, 0)) from by
        rw [HD1.out, HD2.out, show ((bt + sz : Nat) : Int) = (bt : Int) + (sz : Int) by omega]
        exact ⟨h1.setCell (by simp only; have := HRB.out; omega) _, (heap_setCell_other _ _ _ _ (by simp only; omega)).trans h2, heap_setCell_same _ _ _ _ _ _ h3⟩)
      clear hcut h1 h2 h3 hrowc m0 m2 m3 m4 m5
      go_wp2_with fail
      exact ⟨⟨i, by omega, by go_num, Lib.hid HFI.out.1, Lib.hid HFI.out.2.1, Lib.hid HFI.out.2.2⟩, by simp [intOf]⟩
    · obtain rfl : j = 0 := by omega
      rw [show (((0 : Nat) : Int) - 1) = -1 by rfl] at hiv
      subst hiv
      obtain ⟨x0, x1, x2, x3, xf⟩ := fourS HSb.out
      obtain ⟨y0, y1, y2, y3, yf⟩ := fourS HRb.out
      have hsl := heap_lt HSb.out
      have hrl := heap_lt HRb.out
      obtain ⟨bt, hbte⟩ : ∃ bt, bytesR (L.drop 0) = bt := ⟨_, rfl⟩
      obtain ⟨fq, hfqe⟩ : ∃ fq, firstQ (L.drop 0) = fq := ⟨_, rfl⟩
      rw [hbte] at x1
      rw [hfqe] at x2
      have HF := Lib.hid (show Below w.heap.size w ((((wr.setCell ⟨rb, 0, none⟩ (.int .i64 n)).setCell ⟨rb, 1, none⟩ (.int .i64 bt)).setCell ⟨rb, 2, none⟩ (.int .i64 fq)).setCell ⟨rb, 3, none⟩ (.int .i64 last)) from
        ((((HB.out.setCell (by have := HRB.out; simp only; omega) _).setCell (by have := HRB.out; simp only; omega) _).setCell (by have := HRB.out; simp only; omega) _).setCell (by have := HRB.out; simp only; omega) _))
      have HR4 := Lib.hid (set4 (.int .i64 n) (.int .i64 bt) (.int .i64 fq) (.int .i64 last) HRb.out)
      have HEQ := Lib.hid (And.intro hbte hfqe)
      clear hbte hfqe
      go_wp2_with fail
      refine bodyPost_ret (v := .agg #[.int .i64 n, .int .i64 bt, .int .i64 fq, .int .i64 last]) (res_sums Tryz.results119 _ _ rb rfl HR4.out) rfl ?_
      exact ⟨by rw [← HEQ.out.1, ← HEQ.out.2], HF.out⟩
end
end Go.Proofs.YtidacfhdhdnidaaGreatDoor.Sto

namespace Go.Proofs.YtidacfhdhdnidaaGreatDoor.Sto
open Go.RowKit Heap
open Subj (Tok ML pieces takes StrsAt)
open Rec (Rc recErr far)
open Idx (Ents ptrV split_dot strsAt_lt)

def tk (f : List UInt8) (x : Rc) : Bool := takes (pieces f) (pieces x.subj)

/-- What is told of a search. -/
def seekR (er : Nat) (o : Option Rc) : Rc × Nat := if er ≠ 0 then (Rc.zero, er) else match o with
  | some r => (r, 0)
  | none => (Rc.zero, 4)

theorem res_rec2 {fn : Func} (c t : Nat) (hf : fn.results = #[.cell c 33, .tmp t]) (tmps : Array Value) (w : World) (R : Nat) {a0 a1 a2 a3 a4 a5 k : Value}
    (h2 : tmps.getD c undef = .pointer (some ⟨R, 0, none⟩)) (h3 : tmps.getD t undef = k) (hR : w.heap[R]? = some (.cells #[a0, a1, a2, a3, a4, a5] 33 (0, 0))) :
    (results fn tmps).run Tryz.prog w = .ok (.tuple #[.agg #[a0, a1, a2, a3, a4, a5], k]) w := by
  obtain ⟨z0, z1, z2, z3, z4, z5⟩ := sixC hR
  simp only [Array.getD_eq_getD_getElem?] at h2 h3
  simp [results, hf, go_sem, h2, h3, z0, z1, z2, z3, z4, z5]

theorem below6 {n : Nat} {w0 w : World} (h : Below n w0 w) {R : Nat} (hR : n ≤ R) (a0 a1 a2 a3 a4 a5 : Value) : Below n w0 ((((((w.setCell ⟨R, 0, none⟩ a0).setCell ⟨R, 1, none⟩ a1).setCell ⟨R, 2, none⟩ a2).setCell ⟨R, 3, none⟩ a3).setCell ⟨R, 4, none⟩ a4).setCell ⟨R, 5, none⟩ a5) :=
  (((((h.setCell hR a0).setCell hR a1).setCell hR a2).setCell hR a3).setCell hR a4).setCell hR a5

/-- The k-th in the order of the search. -/
def nth (back : Bool) (l : List Rc) (k : Nat) : Option Rc := if back then l[l.length - 1 - k]? else l[k]?

def order (back : Bool) (l : List Rc) : List Rc := if back then l.reverse else l

theorem nth_order (back : Bool) (l : List Rc) (k : Nat) (hk : k < l.length) : nth back l k = (order back l)[k]? := by
  unfold nth order
  cases back with
  | false => rfl
  | true => simp [List.getElem?_reverse hk]

theorem find_nth {F : Rc → Bool} : ∀ {O : List Rc} {k : Nat} {p : Rc}, (∀ x ∈ O.take k, F x = false) → O[k]? = some p → F p = true → O.find? F = some p
  | [], _, _, _, h, _ => by simp at h
  | a :: O, 0, p, _, h, hp => by
    simp at h; subst h
    simp [List.find?, hp]
  | a :: O, k + 1, p, hn, h, hp => by
    have ha := hn a (by simp)
    have ih := find_nth (O := O) (k := k) (p := p) (fun x hx => hn x (by simp [hx])) (by simpa using h) hp
    simp [List.find?, ha, ih]

theorem order_len (back : Bool) (l : List Rc) : (order back l).length = l.length := by unfold order; cases back <;> simp
theorem order_mem {back : Bool} {l : List Rc} {r : Rc} (h : r ∈ order back l) : r ∈ l := by unfold order at h; cases back <;> simpa using h

section
variable {W w : World}

set_option maxHeartbeats 8000000 in
set_option maxRecDepth 100000 in
theorem seek_any (hb : Below W.heap.size W w) (hm : ML W) (f : ByteArray) (hf : f.size ≤ 1048576) {v : Value} {l : List Rc} (hl : RecsAt w v l) (hn : l.length ≤ 1000) (hz : ∀ r ∈ l, r.subj.length ≤ 1048576) (back : Bool) :
    Calls Tryz.prog 140 #[.string f, v, .bool back] w fun e w' => e = .returned (.tuple #[recV (seekR (Subj.err true f.data.toList) ((order back l).find? (tk f.data.toList))).1, .int .i64 ((seekR (Subj.err true f.data.toList) ((order back l).find? (tk f.data.toList))).2 : Nat)]) ∧ Below w.heap.size w w' := by
  obtain ⟨R, hR⟩ : ∃ R, seekR (Subj.err true f.data.toList) ((order back l).find? (tk f.data.toList)) = R := ⟨_, rfl⟩
  rw [hR]
  have HR := Lib.hid hR
  obtain ⟨n, hnL⟩ : ∃ n, l.length = n := ⟨_, rfl⟩
  have HN := Lib.hid hnL
  obtain ⟨w1, hw1⟩ : ∃ w1, w1 = w.alloc (.cells #[.int .i64 0, .int .i64 0, .int .i64 0, .string ⟨#[]⟩, .string ⟨#[]⟩, .string ⟨#[]⟩] 33) := ⟨_, rfl⟩
  have hb1 : Below w.heap.size w w1 := by rw [hw1]; exact (Below.refl _ _).alloc (Nat.le_refl _) _
  have hea : w1.heap[w.heap.size]? = some (.cells #[.int .i64 0, .int .i64 0, .int .i64 0, .string ⟨#[]⟩, .string ⟨#[]⟩, .string ⟨#[]⟩] 33 (0, 0)) := by rw [hw1]; exact heap_alloc_new w _
  obtain ⟨rb, hrb⟩ : ∃ rb, w.heap.size = rb := ⟨_, rfl⟩
  rw [hrb] at hea
  have HFI := Lib.hid (Subj.filter_any f w1 hf (hm.below (hb.trans (hb1.mono hb.size))))
  have HSP := Lib.hid (fun w1 hm1 => split_dot f w1 hf hm1)
  have hpl := Subj.pieces_size f hf
  have hne := Subj.pieces_ne f.data.toList
  obtain ⟨er, her⟩ : ∃ er, Subj.err true f.data.toList = er := ⟨_, rfl⟩
  rw [her] at HFI HR
  obtain ⟨F, hF⟩ : ∃ F, tk f.data.toList = F := ⟨_, rfl⟩
  rw [hF] at HR
  have HFF := Lib.hid hF
  obtain ⟨fl, hfl⟩ : ∃ fl, pieces f.data.toList = fl := ⟨_, rfl⟩
  rw [hfl] at HSP hpl hne
  have HFL := Lib.hid hfl
  have HL := Lib.hid hl; have HML := Lib.hid hm; have HZ := Lib.hid hz; have HB1 := Lib.hid hb1; have HEA := Lib.hid hea; have HRB := Lib.hid hrb; have HB := Lib.hid hb; have HNE := Lib.hid hne
  have HLv : ∃ ao cap, v = .slice ao n cap := by
    obtain ⟨ao, cap, h1, _⟩ := hl
    exact ⟨ao, cap, by rw [h1, hnL]⟩
  obtain ⟨ao, cap, rfl⟩ := HLv
  rw [hnL] at hn
  have hrbl := heap_lt hea
  clear hl hz hm hb hb1 hea hR hrb hnL hF hfl her hne
  go_enter Tryz.func140, Tryz.ntmps140
  go_upto_region 1 with fail
  rw [← hw1, HRB.out]
  clear hw1
  go_wp2_with fail
  refine HFI.out.mono ?_
  rintro e w2 ⟨rfl, hb2⟩
  have HB2 := Lib.hid (HB1.out.trans (hb2.mono HB1.out.size))
  have hea2 := (hb2.block rb hrbl).trans HEA.out
  have HEA2 := Lib.hid hea2
  obtain ⟨q0, q1, q2, q3, q4, q5⟩ := sixC hea2
  have hrbl2 := heap_lt hea2
  have zf : ∀ j, w2.frozen? ⟨rb, j, none⟩ = false := fun j => frozen_of_row w2 rb j _ _ hea2
  clear hb2 hea2 HFI HEA hrbl
  by_cases he : er = 0
  · subst he
    have HSP2 := Lib.hid (HSP.out w2 (HML.out.below (HB.out.trans (HB2.out.mono HB.out.size))))
    obtain ⟨gf, hgf⟩ : ∃ gf, w2.heap.size = gf := ⟨_, rfl⟩
    rw [hgf] at HSP2
    have HGF := Lib.hid hgf
    clear hgf HSP q0 q1 q2 q3 q4 q5 zf
    go_wp2_with fail
    refine HSP2.out.mono ?_
    rintro e w3 ⟨rfl, hst3, hb3⟩
    rw [← HGF.out] at hb3
    have HST3 := Lib.hid hst3
    have HB3 := Lib.hid (HB2.out.trans (hb3.mono HB2.out.size))
    have hea3 := (hb3.block rb hrbl2).trans HEA2.out
    have HEA3 := Lib.hid hea3
    clear hst3 hb3 hea3 HSP2 HEA2 hrbl2
    go_wp2_with fail
    go_loopw [22] (fun i wr => ∃ k : Nat, k ≤ n ∧ i = .int .i64 k ∧ Hid (∀ x ∈ (order back l).take k, F x = false) ∧ Hid (Below w3.heap.size w3 wr)) (fun i _ => n - (intOf i).toNat)
    case atStart => exact ⟨0, Nat.zero_le _, rfl, Lib.hid (fun x h => by simp at h), Lib.hid (Below.refl _ _)⟩
    case round =>
      obtain ⟨k, hk, rfl, HNO, HW⟩ := hrel
      have hear := (HW.out.block rb (heap_lt HEA3.out)).trans HEA3.out
      have HEAR := Lib.hid hear
      have HBr := Lib.hid (HB3.out.trans (HW.out.mono HB3.out.size))
      by_cases hlt : k < n
      · have hltz : (k : Int) < n := by omega
        obtain ⟨pk, hpk⟩ : ∃ p, l[k]? = some p := ⟨_, List.getElem?_eq_getElem (by rw [HN.out]; exact hlt)⟩
        obtain ⟨a', c', hv, ha⟩ := (HL.out.below HBr.out (Nat.le_refl _))
        simp only [Value.slice.injEq] at hv
        obtain ⟨rfl, hv0, rfl⟩ := hv
        clear hv0
        obtain ⟨g, off, rfl, hcs⟩ := ha (fun e => by rw [e] at hpk; simp at hpk)
        obtain ⟨m0, m1, m2, m3, m4, m5⟩ := hcs k pk hpk
        obtain ⟨s0, h0, d0, hpp0⟩ := parts pk
        rw [hpp0.s1] at m3
        rw [hpp0.h1] at m4
        rw [hpp0.d1] at m5
        cases back with
        | false =>
          have hO : (order false l)[k]? = some pk := hpk
          obtain ⟨pp, hpe⟩ : ∃ pp, pk = pp := ⟨_, rfl⟩
          rw [hpe] at hO hpp0 m0 m1 m2
          obtain ⟨s, hs⟩ : ∃ s, s0 = s := ⟨_, rfl⟩
          obtain ⟨h, hh⟩ : ∃ h, h0 = h := ⟨_, rfl⟩
          obtain ⟨d, hd⟩ : ∃ d, d0 = d := ⟨_, rfl⟩
          rw [hs, hh, hd] at hpp0
          rw [hs] at m3
          rw [hh] at m4
          rw [hd] at m5
          have hpp := hpp0
          clear hpp0 hs hh hd hpe hpk
          have hrv : recV pp = .agg #[.int .i64 pp.kind, .int .i64 pp.seq, .int .i64 pp.time, .string s, .string h, .string d] := by unfold recV; rw [hpp.s1, hpp.h1, hpp.d1]
          obtain ⟨kd, hkd⟩ : ∃ kd, pp.kind = kd := ⟨_, rfl⟩
          obtain ⟨sq, hsq⟩ : ∃ sq, pp.seq = sq := ⟨_, rfl⟩
          obtain ⟨tm, htm⟩ : ∃ tm, pp.time = tm := ⟨_, rfl⟩
          rw [hkd, hsq, htm] at hrv
          rw [hkd] at m0
          rw [hsq] at m1
          rw [htm] at m2
          have HRV := Lib.hid hrv
          obtain ⟨wb, hwb⟩ : ∃ wb, wb = wr.alloc (.cells #[.int .i64 kd, .int .i64 sq, .int .i64 tm, .string s, .string h, .string d] 33) := ⟨_, rfl⟩
          have hba : Below wr.heap.size wr wb := by rw [hwb]; exact (Below.refl _ _).alloc (Nat.le_refl _) _
          have heb : wb.heap[wr.heap.size]? = some (.cells #[.int .i64 kd, .int .i64 sq, .int .i64 tm, .string s, .string h, .string d] 33 (0, 0)) := by rw [hwb]; exact heap_alloc_new wr _
          have hrl := heap_lt hear
          obtain ⟨bx, hbx⟩ : ∃ bx, wr.heap.size = bx := ⟨_, rfl⟩
          rw [hbx] at heb
          have HEB := Lib.hid heb; have HBX := Lib.hid hbx
          have HWb := Lib.hid (HW.out.trans (hba.mono HW.out.size)); have HBb := Lib.hid (HBr.out.trans (hba.mono HBr.out.size)); have HRBb := Lib.hid ((hba.block rb hrl).trans hear)
          have HNB := Lib.hid (show ¬ rb = bx by omega)
          clear hba heb hbx hear hrv hkd hsq htm hrl
          go_upto_region 11 with fail
          rw [← hwb, HBX.out]
          clear hwb
          clear m0 m1 m2 m3 m4 m5 hcs ha
          obtain ⟨q0, q1, q2, q3, q4, q5⟩ := sixC HEB.out
          have hbxl := heap_lt HEB.out
          have hspl := split_dot s wb (by rw [hpp.s3]; exact HZ.out pp (order_mem (List.mem_of_getElem? hO))) (HML.out.below (HB.out.trans (HBb.out.mono HB.out.size)))
          rw [hpp.s2] at hspl
          have hpl2 : (pieces pp.subj).length ≤ 1048577 := by
            have := Subj.pieces_size s (by rw [hpp.s3]; exact HZ.out pp (order_mem (List.mem_of_getElem? hO)))
            rw [hpp.s2] at this; exact this
          obtain ⟨pl, hpli⟩ : ∃ pl, pieces pp.subj = pl := ⟨_, rfl⟩
          rw [hpli] at hspl hpl2
          obtain ⟨B, hBv⟩ : ∃ B, F pp = B := ⟨_, rfl⟩
          have htk := fun (w4 : World) (ha : StrsAt w4 gf 0 fl) (hb : StrsAt w4 wb.heap.size 0 pl) => Subj.takes_any gf wb.heap.size fl.length pl.length fl pl w4 ha hb (by unfold maxLen; omega) (by unfold maxLen; omega)
          have htv : takes fl pl = B := by
            rw [← hBv, ← HFF.out]
            unfold tk
            rw [HFL.out, hpli]
          rw [htv] at htk
          have HSPL := Lib.hid hspl; have HTK := Lib.hid htk; have HBV := Lib.hid hBv; have HO := Lib.hid hO
          have HSTb := Lib.hid (HST3.out.below HWb.out)
          clear hspl hpli hBv htv htk hO hpp
          go_wp2_with fail
          refine HSPL.out.mono ?_
          rintro e w5 ⟨rfl, hst5, hb5⟩
          have HTK5 := Lib.hid (HTK.out w5 (HSTb.out.below hb5) hst5)
          have heb5 := (hb5.block bx hbxl).trans HEB.out
          have her5 := (hb5.block rb (heap_lt HRBb.out)).trans HRBb.out
          have HW5 := Lib.hid (HWb.out.trans (hb5.mono HWb.out.size)); have HB5 := Lib.hid (HBb.out.trans (hb5.mono HBb.out.size)); have HRB5 := Lib.hid her5
          obtain ⟨q0, q1, q2, q3, q4, q5⟩ := sixC heb5
          obtain ⟨y0, y1, y2, y3, y4, y5⟩ := sixC her5
          have yf : ∀ j, w5.frozen? ⟨rb, j, none⟩ = false := fun j => frozen_of_row w5 rb j _ _ her5
          have hbxl5 := heap_lt heb5
          have hrbl5 := heap_lt her5
          clear hst5 hb5 heb5 her5 HSPL HTK
          go_wp2_with fail
          refine HTK5.out.mono ?_
          rintro e w' ⟨rfl, rfl⟩
          clear HTK5
          cases B with
          | false =>
            go_wp2_with fail
            exact ⟨⟨k + 1, by omega, by go_num, Lib.hid (fun x hx => by
              rw [List.take_add_one, HO.out, List.mem_append] at hx
              rcases hx with hx | hx
              · exact HNO.out x hx
              · simp at hx; subst hx; exact HBV.out), HW5⟩, by simp [intOf]; omega⟩
          | true =>
            obtain rfl : R = (pp, 0) := by
              rw [← HR.out, find_nth HNO.out HO.out HBV.out]; rfl
            have HF2 := Lib.hid (below6 HB5.out (Nat.le_of_eq HRB.out) (.int .i64 kd) (.int .i64 sq) (.int .i64 tm) (.string s) (.string h) (.string d))
            have HR6 := Lib.hid (set6 (.int .i64 kd) (.int .i64 sq) (.int .i64 tm) (.string s) (.string h) (.string d) HRB5.out)
            have hne2 : ¬ rb = bx := HNB.out
            go_wp2_with fail
            refine bodyPost_ret (v := .tuple #[.agg #[.int .i64 kd, .int .i64 sq, .int .i64 tm, .string s, .string h, .string d], .int .i64 0]) (res_rec2 6 7 Tryz.results140 _ _ rb rfl rfl HR6.out) rfl ?_
            exact ⟨by rw [← HRV.out], HF2.out⟩
        | true =>
          obtain ⟨pp, hpb⟩ : ∃ p, l[n - 1 - k]? = some p := ⟨_, List.getElem?_eq_getElem (by rw [HN.out]; omega)⟩
          have hO : (order true l)[k]? = some pp := by
            rw [← nth_order true l k (by rw [HN.out]; exact hlt)]
            unfold nth
            rw [if_pos rfl, HN.out]; exact hpb
          obtain ⟨b0, b1, b2, b3, b4, b5⟩ := hcs (n - 1 - k) pp hpb
          obtain ⟨s, h, d, hpp⟩ := parts pp
          rw [hpp.s1] at b3
          rw [hpp.h1] at b4
          rw [hpp.d1] at b5
          have hs1 : ((n : Int) - 1 - k).toNat = n - 1 - k := by omega
          have hs2 : (0 : Int) ≤ (n : Int) - 1 - k := by omega
          have hs3 : (n : Int) - 1 - k < n := by omega
          clear hpb hpk hpp0
          have hrv : recV pp = .agg #[.int .i64 pp.kind, .int .i64 pp.seq, .int .i64 pp.time, .string s, .string h, .string d] := by unfold recV; rw [hpp.s1, hpp.h1, hpp.d1]
          obtain ⟨kd, hkd⟩ : ∃ kd, pp.kind = kd := ⟨_, rfl⟩
          obtain ⟨sq, hsq⟩ : ∃ sq, pp.seq = sq := ⟨_, rfl⟩
          obtain ⟨tm, htm⟩ : ∃ tm, pp.time = tm := ⟨_, rfl⟩
          rw [hkd, hsq, htm] at hrv
          rw [hkd] at b0
          rw [hsq] at b1
          rw [htm] at b2
          have HRV := Lib.hid hrv
          obtain ⟨zk, hzk⟩ : ∃ zk, pk.kind = zk := ⟨_, rfl⟩
          obtain ⟨zq, hzq⟩ : ∃ zq, pk.seq = zq := ⟨_, rfl⟩
          obtain ⟨zt, hzt⟩ : ∃ zt, pk.time = zt := ⟨_, rfl⟩
          rw [hzk] at m0
          rw [hzq] at m1
          rw [hzt] at m2
          obtain ⟨wk, hwk⟩ : ∃ wk, wk = wr.alloc (.cells #[.int .i64 zk, .int .i64 zq, .int .i64 zt, .string s0, .string h0, .string d0] 33) := ⟨_, rfl⟩
          have hbk : Below wr.heap.size wr wk := by rw [hwk]; exact (Below.refl _ _).alloc (Nat.le_refl _) _
          have hek : wk.heap[wr.heap.size]? = some (.cells #[.int .i64 zk, .int .i64 zq, .int .i64 zt, .string s0, .string h0, .string d0] 33 (0, 0)) := by rw [hwk]; exact heap_alloc_new wr _
          have hg : g < wr.heap.size := World.block_lt_of_cell? wr _ b0
          have hgb := hbk.block g hg
          have b0' := (World.cell?_of_block (a := ⟨g, off + (n - 1 - k) * 6, none⟩) hgb).trans b0
          have b1' := (World.cell?_of_block (a := ⟨g, off + (n - 1 - k) * 6 + 1, none⟩) hgb).trans b1
          have b2' := (World.cell?_of_block (a := ⟨g, off + (n - 1 - k) * 6 + 2, none⟩) hgb).trans b2
          have b3' := (World.cell?_of_block (a := ⟨g, off + (n - 1 - k) * 6 + 3, none⟩) hgb).trans b3
          have b4' := (World.cell?_of_block (a := ⟨g, off + (n - 1 - k) * 6 + 4, none⟩) hgb).trans b4
          have b5' := (World.cell?_of_block (a := ⟨g, off + (n - 1 - k) * 6 + 5, none⟩) hgb).trans b5
          obtain ⟨x0, x1, x2, x3, x4, x5⟩ := sixC hek
          have xf : ∀ j, wk.frozen? ⟨wr.heap.size, j, none⟩ = false := fun j => frozen_of_row wk _ j _ _ hek
          have hxl := heap_lt hek
          obtain ⟨wb, hwb⟩ : ∃ wb, wb = ((((((wk.setCell ⟨wr.heap.size, 0, none⟩ (.int .i64 kd)).setCell ⟨wr.heap.size, 1, none⟩ (.int .i64 sq)).setCell ⟨wr.heap.size, 2, none⟩ (.int .i64 tm)).setCell ⟨wr.heap.size, 3, none⟩ (.string s)).setCell ⟨wr.heap.size, 4, none⟩ (.string h)).setCell ⟨wr.heap.size, 5, none⟩ (.string d)) := ⟨_, rfl⟩
          have hba : Below wr.heap.size wr wb := by rw [hwb]; exact below6 hbk (Nat.le_refl _) _ _ _ _ _ _
          have heb : wb.heap[wr.heap.size]? = some (.cells #[.int .i64 kd, .int .i64 sq, .int .i64 tm, .string s, .string h, .string d] 33 (0, 0)) := by rw [hwb]; exact set6 _ _ _ _ _ _ hek
          have hrl := heap_lt hear
          obtain ⟨bx, hbx⟩ : ∃ bx, wr.heap.size = bx := ⟨_, rfl⟩
          rw [hbx] at heb hwb x0 x1 x2 x3 x4 x5 hxl
          have xf' : ∀ j, wk.frozen? ⟨bx, j, none⟩ = false := by rw [← hbx]; exact xf
          have HEB := Lib.hid heb; have HBX := Lib.hid hbx
          have HWb := Lib.hid (HW.out.trans (hba.mono HW.out.size)); have HBb := Lib.hid (HBr.out.trans (hba.mono HBr.out.size)); have HRBb := Lib.hid ((hba.block rb hrl).trans hear)
          have HNB := Lib.hid (show ¬ rb = bx by omega)
          clear hba heb hbx hear hrv hkd hsq htm hrl xf hzk hzq hzt hbk hek hgb b0 b1 b2 b3 b4 b5
          go_upto_region 9 with fail
          rw [← hwk, HBX.out]
          clear hwk
          go_upto_region 11 with fail
          rw [← hwb]
          clear hwb x0 x1 x2 x3 x4 x5 xf' hxl
          clear m0 m1 m2 m3 m4 m5 b0' b1' b2' b3' b4' b5' hcs ha hs1 hs2 hs3
          obtain ⟨q0, q1, q2, q3, q4, q5⟩ := sixC HEB.out
          have hbxl := heap_lt HEB.out
          have hspl := split_dot s wb (by rw [hpp.s3]; exact HZ.out pp (order_mem (List.mem_of_getElem? hO))) (HML.out.below (HB.out.trans (HBb.out.mono HB.out.size)))
          rw [hpp.s2] at hspl
          have hpl2 : (pieces pp.subj).length ≤ 1048577 := by
            have := Subj.pieces_size s (by rw [hpp.s3]; exact HZ.out pp (order_mem (List.mem_of_getElem? hO)))
            rw [hpp.s2] at this; exact this
          obtain ⟨pl, hpli⟩ : ∃ pl, pieces pp.subj = pl := ⟨_, rfl⟩
          rw [hpli] at hspl hpl2
          obtain ⟨B, hBv⟩ : ∃ B, F pp = B := ⟨_, rfl⟩
          have htk := fun (w4 : World) (ha : StrsAt w4 gf 0 fl) (hb : StrsAt w4 wb.heap.size 0 pl) => Subj.takes_any gf wb.heap.size fl.length pl.length fl pl w4 ha hb (by unfold maxLen; omega) (by unfold maxLen; omega)
          have htv : takes fl pl = B := by
            rw [← hBv, ← HFF.out]
            unfold tk
            rw [HFL.out, hpli]
          rw [htv] at htk
          have HSPL := Lib.hid hspl; have HTK := Lib.hid htk; have HBV := Lib.hid hBv; have HO := Lib.hid hO
          have HSTb := Lib.hid (HST3.out.below HWb.out)
          clear hspl hpli hBv htv htk hO hpp
          go_wp2_with fail
          refine HSPL.out.mono ?_
          rintro e w5 ⟨rfl, hst5, hb5⟩
          have HTK5 := Lib.hid (HTK.out w5 (HSTb.out.below hb5) hst5)
          have heb5 := (hb5.block bx hbxl).trans HEB.out
          have her5 := (hb5.block rb (heap_lt HRBb.out)).trans HRBb.out
          have HW5 := Lib.hid (HWb.out.trans (hb5.mono HWb.out.size)); have HB5 := Lib.hid (HBb.out.trans (hb5.mono HBb.out.size)); have HRB5 := Lib.hid her5
          obtain ⟨q0, q1, q2, q3, q4, q5⟩ := sixC heb5
          obtain ⟨y0, y1, y2, y3, y4, y5⟩ := sixC her5
          have yf : ∀ j, w5.frozen? ⟨rb, j, none⟩ = false := fun j => frozen_of_row w5 rb j _ _ her5
          have hbxl5 := heap_lt heb5
          have hrbl5 := heap_lt her5
          clear hst5 hb5 heb5 her5 HSPL HTK
          go_wp2_with fail
          refine HTK5.out.mono ?_
          rintro e w' ⟨rfl, rfl⟩
          clear HTK5
          cases B with
          | false =>
            go_wp2_with fail
            exact ⟨⟨k + 1, by omega, by go_num, Lib.hid (fun x hx => by
              rw [List.take_add_one, HO.out, List.mem_append] at hx
              rcases hx with hx | hx
              · exact HNO.out x hx
              · simp at hx; subst hx; exact HBV.out), HW5⟩, by simp [intOf]; omega⟩
          | true =>
            obtain rfl : R = (pp, 0) := by
              rw [← HR.out, find_nth HNO.out HO.out HBV.out]; rfl
            have HF2 := Lib.hid (below6 HB5.out (Nat.le_of_eq HRB.out) (.int .i64 kd) (.int .i64 sq) (.int .i64 tm) (.string s) (.string h) (.string d))
            have HR6 := Lib.hid (set6 (.int .i64 kd) (.int .i64 sq) (.int .i64 tm) (.string s) (.string h) (.string d) HRB5.out)
            have hne2 : ¬ rb = bx := HNB.out
            go_wp2_with fail
            refine bodyPost_ret (v := .tuple #[.agg #[.int .i64 kd, .int .i64 sq, .int .i64 tm, .string s, .string h, .string d], .int .i64 0]) (res_rec2 6 7 Tryz.results140 _ _ rb rfl rfl HR6.out) rfl ?_
            exact ⟨by rw [← HRV.out], HF2.out⟩
      · have hltz : ¬ (k : Int) < n := by omega
        obtain rfl : k = n := by omega
        obtain rfl : R = (Rc.zero, 4) := by
          rw [← HR.out]
          have hno : (order back l).find? F = none := by
            rw [List.find?_eq_none]
            intro x hx
            have h1 := HNO.out x (by rw [List.take_of_length_le (by rw [order_len, HN.out]; exact Nat.le_refl _)]; exact hx)
            rw [h1]; simp
          rw [hno]; rfl
        obtain ⟨y0, y1, y2, y3, y4, y5⟩ := sixC hear
        have yf : ∀ j, wr.frozen? ⟨rb, j, none⟩ = false := fun j => frozen_of_row wr rb j _ _ hear
        have hrlr := heap_lt hear
        have HF2 := Lib.hid (below6 HBr.out (Nat.le_of_eq HRB.out) (.int .i64 0) (.int .i64 0) (.int .i64 0) (.string ⟨#[]⟩) (.string ⟨#[]⟩) (.string ⟨#[]⟩))
        have HR6 := Lib.hid (set6 (.int .i64 0) (.int .i64 0) (.int .i64 0) (.string ⟨#[]⟩) (.string ⟨#[]⟩) (.string ⟨#[]⟩) HEAR.out)
        clear hear
        go_wp2_with fail
        refine bodyPost_ret (v := .tuple #[.agg #[.int .i64 0, .int .i64 0, .int .i64 0, .string ⟨#[]⟩, .string ⟨#[]⟩, .string ⟨#[]⟩], .int .i64 4]) (res_rec2 6 7 Tryz.results140 _ _ rb rfl rfl HR6.out) rfl ?_
        exact ⟨rfl, HF2.out⟩
  · have he0 : ((er : Int) != 0) = true := by simpa using he
    obtain rfl : R = (Rc.zero, er) := by rw [← HR.out]; unfold seekR; rw [if_pos he]
    have HF2 := Lib.hid (below6 HB2.out (Nat.le_of_eq HRB.out) (.int .i64 0) (.int .i64 0) (.int .i64 0) (.string ⟨#[]⟩) (.string ⟨#[]⟩) (.string ⟨#[]⟩))
    have HR6 := Lib.hid (set6 (.int .i64 0) (.int .i64 0) (.int .i64 0) (.string ⟨#[]⟩) (.string ⟨#[]⟩) (.string ⟨#[]⟩) HEA2.out)
    clear he
    go_wp2_with fail
    refine bodyPost_ret (v := .tuple #[.agg #[.int .i64 0, .int .i64 0, .int .i64 0, .string ⟨#[]⟩, .string ⟨#[]⟩, .string ⟨#[]⟩], .int .i64 er]) (res_rec2 6 7 Tryz.results140 _ _ rb rfl rfl HR6.out) rfl ?_
    exact ⟨rfl, HF2.out⟩
end
end Go.Proofs.YtidacfhdhdnidaaGreatDoor.Sto
