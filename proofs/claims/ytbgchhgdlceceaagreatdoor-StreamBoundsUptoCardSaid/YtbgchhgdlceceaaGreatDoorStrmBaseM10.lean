/- Parts of the proof, joined: The disk's Crash.; What Open leaves, block by block, in plain Lean. No program here.; append of one row behind another, the source nil, empty or not. Over any program.; blog.Open, walked. -/
import Derived.Test.YtbgchhgdlceceaaGreatDoorStrmBaseM9
import Derived.Deep.CutRange
namespace Go.Proofs.YtbgchhgdlceceaaGreatDoor.Dsk
open Go.RowKit Go.Maps Heap

/-! ### in plain Lean -/
def crashI (K i : Nat) (A : List FileP) : List FileP := (A.take i).map (keptF K) ++ A.drop i

theorem crashI_zero (K : Nat) (A : List FileP) : crashI K 0 A = A := by simp [crashI]
theorem crashI_all (K : Nat) (A : List FileP) : crashI K A.length A = crashD A K := by simp [crashI, crashD]

theorem getF_mid : ∀ (pre : List FileP) (p : FileP) (post : List FileP), (∀ x ∈ pre, x.n ≠ p.n) → getF (pre ++ p :: post) p.n = some p
  | [], p, post, _ => by simp [getF]
  | a :: r, p, post, h => by
    rw [List.cons_append]
    unfold getF
    rw [if_neg (h a (by simp))]
    exact getF_mid r p post fun x hx => h x (List.mem_cons_of_mem _ hx)

theorem setF_mid : ∀ (pre : List FileP) (p q : FileP) (post : List FileP), (∀ x ∈ pre, x.n ≠ q.n) → p.n = q.n → setF (pre ++ p :: post) q = pre ++ q :: post
  | [], p, q, post, _, e => by simp [setF, e]
  | a :: r, p, q, post, h, e => by
    rw [List.cons_append]
    unfold setF
    rw [if_neg (h a (by simp)), setF_mid r p q post (fun x hx => h x (List.mem_cons_of_mem _ hx)) e]
    rfl

theorem crashI_at {K i : Nat} {A : List FileP} (hs : Sorted A) (hi : i < A.length) : getF (crashI K i A) A[i].n = some A[i] ∧ setF (crashI K i A) (keptF K A[i]) = crashI K (i + 1) A := by
  have hpre : ∀ x ∈ (A.take i).map (keptF K), x.n ≠ A[i].n := by
    intro x hx
    obtain ⟨y, hy, rfl⟩ := List.mem_map.1 hx
    obtain ⟨j, hj, rfl⟩ := List.getElem_of_mem hy
    rw [List.length_take] at hj
    rw [List.getElem_take]
    have := (List.pairwise_iff_getElem.1 hs) j i (by omega) hi (by omega)
    show A[j].n ≠ A[i].n
    omega
  have hd : A.drop i = A[i] :: A.drop (i + 1) := List.drop_eq_getElem_cons hi
  constructor
  · unfold crashI; rw [hd]; exact getF_mid _ _ _ hpre
  · unfold crashI
    rw [hd, setF_mid _ A[i] (keptF K A[i]) _ hpre rfl, List.take_add_one, List.getElem?_eq_getElem hi]
    show _ = ((A.take i) ++ [A[i]]).map (keptF K) ++ _
    rw [List.map_append]
    simp

section
variable {W w : World} {F : Nat → Prop} {D : Nat} {room : Int} {A : List FileP}

/-- Its blocks are those that there are. -/
theorem DiskAt.shrink (h : DiskAt W F D room A w) : DiskAt W (fun k => F k ∧ k < w.heap.size) D room A w := by
  obtain ⟨M, β, X, hm⟩ := h.mem
  exact ⟨h.right, h.below, fun k hk => h.newF k hk.1, M, β, X, { hm with fD := ⟨hm.fD, hm.ltD⟩, fM := ⟨hm.fM, hm.ltM⟩, fF := fun p hp => ⟨hm.fF p hp, hm.ltF hp⟩ }⟩

def CR (W : World) (G : Nat → Prop) (D : Nat) (room : Int) (K : Nat) (A : List FileP) (v : Value) (w1 : World) (k : Nat) (wr : World) : Prop :=
  DiskAt W G D room (crashI K k A) wr ∧ Row wr 3 1 v A.length (numsV (A.map (·.n))) ∧ Heap.Touch G w1 wr

set_option maxHeartbeats 2000000 in
set_option maxRecDepth 100000 in
theorem crash_any (h : DiskAt W F D room A w) (keep : Int) : Calls Tryz.prog 54 #[.pointer (some ⟨D, 0, none⟩), .int .i64 keep] w fun e w' => e = .returned (.tuple #[]) ∧ DiskAt W F D room (crashD A keep.toNat) w' ∧ Heap.Touch F w w' := by
  have HH := Lib.hid h; have HL := Lib.hid (list_any h)
  obtain ⟨K, hK⟩ : ∃ K : Nat, max keep 0 = (K : Int) ∧ keep.toNat = K := ⟨keep.toNat, by omega, rfl⟩
  rw [hK.2]
  have HK := Lib.hid hK.1
  have hmx : max keep 0 = (K : Int) := hK.1
  clear h hK
  go_enter Tryz.func54, Tryz.ntmps54
  go_upto_region 0 with fail
  go_cut [1] from 8 to 10 (fun s1 wx => s1 = .int .i64 K ∧ w = wx)
  case first =>
    by_cases hneg : keep < 0
    · have h0 : (K : Int) = 0 := by rw [← hmx]; omega
      clear hmx
      go_wp2_with fail
      go_meet
      exact ⟨val_int (by omega), rfl⟩
    · have h0 : (K : Int) = keep := by rw [← hmx]; omega
      clear hmx
      go_wp2_with fail
      go_meet
      exact ⟨val_int (by omega), rfl⟩
  case rest =>
  obtain ⟨rfl, rfl⟩ := hcut
  clear hmx
  go_wp2_with fail
  refine HL.out.mono ?_
  rintro e w1 ⟨v, rfl, hN⟩
  obtain ⟨a1, n1, hv⟩ := hN.2.1.slice
  obtain ⟨hNb, hNr, hNo⟩ := hN
  have hlenA : (A.map (·.n)).length = A.length := List.length_map _
  rw [hlenA] at hNr hv
  subst hv
  have hD1 : DiskAt W (fun k => F k ∧ k < w.heap.size) D room A w1 := HH.out.shrink.kept (hNb.mono HH.out.below.size) fun k hk hk2 => hNb.block k hk2
  have H0 := Lib.hid (show CR W (fun k => F k ∧ k < w.heap.size) D room K A (.slice a1 A.length n1) w1 0 w1 from ⟨by rw [crashI_zero]; exact hD1, hNr, Heap.Touch.refl _ _⟩)
  have HB := Lib.hid hNb; have HO := Lib.hid hNo; have HFEW := Lib.hid HH.out.right.few; have HSORT := Lib.hid HH.out.right.sorted
  have HEND := Lib.hid (fun w' (q : CR W (fun k => F k ∧ k < w.heap.size) D room K A (.slice a1 A.length n1) w1 A.length w') => (by
    obtain ⟨q1, q2, q3⟩ := q
    rw [crashI_all] at q1
    have hnF := HH.out.newF
    exact ⟨q1.mono (fun k hk => hk.1) hnF, (Heap.Touch.ofBelow (F := F) hNb).after (q3.mono fun k _ hk => hk.1)⟩ : DiskAt W F D room (crashD A K) w' ∧ Heap.Touch F w w'))
  have hlen20 : A.length ≤ 20 := HH.out.right.few
  clear hNb hNr hNo hlenA hD1 HH HL
  obtain ⟨L, hL⟩ : ∃ L, A.length = L := ⟨_, rfl⟩
  rw [hL] at hlen20 H0 HEND ⊢
  have HLL := Lib.hid hL
  clear hL
  go_wp2_with fail
  go_loopw [13] (fun i wr => ∃ k : Nat, k ≤ L ∧ i = .int .i64 k ∧ Hid (CR W (fun k => F k ∧ k < w.heap.size) D room K A (.slice a1 L n1) w1 k wr)) (fun i _ => L - (intOf i).toNat)
  case atStart => exact ⟨0, Nat.zero_le _, rfl, H0⟩
  case round =>
    obtain ⟨k, hk, rfl, HR⟩ := hrel
    clear H0
    by_cases hlt : k < L
    · have hltz : (k : Int) < L := by omega
      have hkA : k < A.length := by rw [HLL.out]; exact hlt
      obtain ⟨hDk, hRow, hT⟩ := HR.out
      rw [HLL.out] at hRow
      have hat := crashI_at (K := K) HSORT.out hkA
      have hnk : (numsV (A.map (·.n)))[k]? = some (.int .i64 A[k].n) := by simp [numsV, hkA]
      generalize A[k] = p at hat hnk
      obtain ⟨hg, hset⟩ := hat
      obtain ⟨hpn, hpm⟩ := getF_n hg
      obtain ⟨M, β, X, hm⟩ := hDk.mem
      obtain ⟨c0, c1, c2, cf⟩ := threeC hm.cells
      have hf := hm.files p hpm
      obtain ⟨T, hTt, hTs, hTl⟩ := text_of p.text
      rw [← hTt] at hf
      obtain ⟨f0, f1, ff⟩ := twoC hf
      have hnum := hDk.right.num p hpm
      have hlen := hDk.right.len hpm
      have hsure := hDk.right.sure p hpm
      obtain ⟨S, hS⟩ : ∃ S : Nat, S = p.sure + min K (p.text.length - p.sure) := ⟨_, rfl⟩
      have hcut : cutD (crashI K k A) p.n S = (crashI K (k + 1) A, 0) := by
        unfold cutD
        rw [hg]
        simp only
        rw [if_neg (by omega), ← hset]
        unfold keptF
        rw [← hS]
        rfl
      have HCUT := Lib.hid (fun wr' (q : DiskAt W (fun k => F k ∧ k < w.heap.size) D room (crashI K k A) wr') => (by have := cut_any q p.n S ⟨by omega, by omega⟩; rw [hcut] at this; exact this : Calls Tryz.prog 102 #[.pointer (some ⟨D, 0, none⟩), .int .i64 p.n, .int .i64 S] wr' fun e w' => e = .returned (.int .i64 0) ∧ DiskAt W (fun k => F k ∧ k < w.heap.size) D room (crashI K (k + 1) A) w' ∧ Heap.Touch (fun k => F k ∧ k < w.heap.size) wr' w'))
      have hown := Lib.hid hm.own
      have HAT := Lib.hid (hm.at_ p hpm)
      have HNUM := Lib.hid (show -9223372036854775808 ≤ p.n ∧ p.n ≤ 9223372036854775807 from ⟨by omega, by omega⟩)
      rw [← hTs] at hS hlen hsure
      have HS := Lib.hid hS; have HSU := Lib.hid hsure; have HLN := Lib.hid hlen
      have hrow2 := hRow.2
      rcases hrow2 with ⟨hv, h0⟩ | ⟨g, off, cap, cur, hv, hgb, h1, h2, h3, h4⟩
      · omega
      simp only [Value.slice.injEq, true_and] at hv
      obtain ⟨rfl, rfl⟩ := hv
      have hcell := (hRow.cell k (by omega)).1
      rw [hnk] at hcell
      have wa1 : IntKind.i64.wrap ((T.size : Int) - (p.sure : Int)) = (T.size : Int) - (p.sure : Int) := IntWalk.i64_in _ (by omega)
      have w2 : IntKind.i64.wrap ((p.sure : Int) + (K : Int)) = (p.sure : Int) + (K : Int) ∨ (T.size : Int) - (p.sure : Int) < K := by
        by_cases hc : (T.size : Int) - (p.sure : Int) < K
        · exact .inr hc
        · exact .inl (IntWalk.i64_in _ (by omega))
      have HW2 := Lib.hid w2
      have wa3 : IntKind.i64.wrap ((p.sure : Int) + ((T.size : Int) - (p.sure : Int))) = (T.size : Int) := by rw [IntWalk.i64_in _ (by omega)]; omega
      have HCR := Lib.hid (fun w' (q : DiskAt W (fun k => F k ∧ k < w.heap.size) D room (crashI K (k + 1) A) w') (q2 : Heap.Touch (fun k => F k ∧ k < w.heap.size) wr.drew w') => (by
        refine ⟨q, ?_, hT.drew.after q2⟩
        rw [HLL.out]
        refine hRow.kept ?_
        intro j hj hj2
        exact q2.block j hj2 (fun hh => by have := HO.out j hj; omega) : CR W (fun k => F k ∧ k < w.heap.size) D room K A (.slice (some ⟨g, off, none⟩) L n1) w1 (k + 1) w'))
      have HDD := Lib.hid (hDk.kept (w' := wr.drew) (Below.refl _ _).drew (fun _ _ _ => rfl))
      clear hDk hRow hT hg hset hpn hpm hm hf hTt hTs hTl hnum hlen hcut hS hgb h1 h2 h3 h4 hnk w2 HR hsure
      go_upto_region 5 with (first | (at_lookup; refine look_at _ rfl _ _ rfl M _ X rfl hown.out p.n rfl HNUM.out (β p.n) HAT.out ?_))
      go_cut [7] from 23 to 39 (fun s7 wx => s7 = .int .i64 S ∧ wr.drew = wx)
      case first =>
        have hS2 : (p.sure : Int) + min (K : Int) ((T.size : Int) - (p.sure : Int)) = S := by have := HS.out; have := HSU.out; omega
        have hS3 : wrap64 ((p.sure : Int) + min (K : Int) ((T.size : Int) - (p.sure : Int))) = S := by rw [hS2]; exact IntWalk.wrap64_in _ (by have := HS.out; have := HSU.out; have := HLN.out; omega)
        have HS3 := Lib.hid hS3
        clear HW2 HCUT HCR HDD hS2 hS3 wa3
        go_region
        go_wp2_with fail
        go_meet
        exact ⟨val_int HS3.out, rfl⟩
      case rest =>
      obtain ⟨rfl, rfl⟩ := hcut
      go_wp2_with fail
      refine (HCUT.out _ HDD.out).mono ?_
      rintro e w' ⟨rfl, q1, q2⟩
      have HF := Lib.hid (HCR.out w' q1 q2)
      clear q1 q2 HCUT HCR HDD
      go_wp2_with fail
      exact ⟨⟨k + 1, by omega, by go_num, HF⟩, by simp [intOf]; omega⟩
    · have hltz : ¬ (k : Int) < L := by omega
      obtain rfl : k = L := by omega
      go_wp2
      go_end0
      exact ⟨rfl, HEND.out _ HR.out⟩
end
end Go.Proofs.YtbgchhgdlceceaaGreatDoor.Dsk

namespace Go.Proofs.YtbgchhgdlceceaaGreatDoor.Log
open Dsk Rec

def recsF (p : FileP) : List Rc := (scan p.text).1
def badF (p : FileP) : Bool := decide ((scan p.text).2 < p.text.length)
def cutF (p : FileP) : FileP := ⟨p.n, p.text.take (scan p.text).2, (scan p.text).2⟩
/-- The first block that isn't whole. -/
def jB (A : List FileP) : Nat := A.findIdx badF

/-- The blocks, i of them read. -/
def stB (A : List FileP) (i : Nat) : List FileP := if jB A < i then A.take (jB A) ++ ((A[jB A]?).map cutF).toList ++ A.drop i else A
/-- The records of i blocks. -/
def outB (A : List FileP) (i : Nat) : List Rc := (A.take (min i (jB A + 1))).flatMap recsF

theorem scan_le (s : List UInt8) : (scan s).2 ≤ s.length := by
  have h : ∀ (f : Nat) (s : List UInt8), (scanF f s).2 ≤ s.length := by
    intro f
    induction f with
    | zero => intro s; exact Nat.zero_le _
    | succ f ih =>
      intro s
      unfold scanF
      split
      · exact Nat.zero_le _
      · split
        · exact Nat.zero_le _
        · rename_i h1 h2
          have hz := decL_size (s := s) (by simpa using h2)
          have := ih (s.drop (decL s).2.1)
          rw [List.length_drop] at this
          show (decL s).2.1 + _ ≤ _
          omega
  exact h _ s

theorem jB_cons (p : FileP) (r : List FileP) : jB (p :: r) = if badF p then 0 else jB r + 1 := by
  unfold jB
  rw [List.findIdx_cons]
  cases badF p <;> rfl

theorem openD_eq : ∀ A : List FileP, openD A = (outB A A.length, stB A (if jB A < A.length then A.length else 0))
  | [] => by simp [openD, outB, stB, jB]
  | p :: r => by
    have ih := openD_eq r
    unfold openD
    rw [ih]
    by_cases hb : badF p = true
    · have hlt : (scan p.text).2 < p.text.length := of_decide_eq_true hb
      have hj : jB (p :: r) = 0 := by rw [jB_cons, if_pos hb]
      rw [if_pos hlt]
      unfold outB stB
      rw [hj, if_pos (show 0 < (p :: r).length by simp), if_pos (show 0 < (p :: r).length by simp)]
      refine Prod.ext ?_ ?_
      · show _ = ((p :: r).take (min (r.length + 1) (0 + 1))).flatMap recsF
        rw [show min (r.length + 1) (0 + 1) = 1 by omega]
        simp [recsF]
      · simp [cutF]
    · have hlt : ¬ (scan p.text).2 < p.text.length := fun h => hb (decide_eq_true h)
      have hj : jB (p :: r) = jB r + 1 := by rw [jB_cons, if_neg hb]
      rw [if_neg hlt]
      unfold outB stB
      rw [hj]
      refine Prod.ext ?_ ?_
      · show recsF p ++ _ = ((p :: r).take (min (r.length + 1) (jB r + 1 + 1))).flatMap recsF
        rw [show min (r.length + 1) (jB r + 1 + 1) = min r.length (jB r + 1) + 1 by omega]
        simp [recsF]
      · simp only [List.length_cons]
        by_cases h1 : jB r < r.length
        · rw [if_pos h1, if_pos h1, if_pos (show jB r + 1 < r.length + 1 by omega), if_pos (show jB r + 1 < r.length + 1 by omega)]
          simp
        · rw [if_neg h1, if_neg (by omega), if_neg (show ¬ jB r + 1 < r.length + 1 by omega), if_neg (by omega)]

theorem stB_end {A : List FileP} : stB A (if jB A < A.length then A.length else 0) = stB A A.length := by
  split
  · rfl
  · rename_i h
    unfold stB
    rw [if_neg (by omega), if_neg h]

theorem openD_all (A : List FileP) : openD A = (outB A A.length, stB A A.length) := by rw [openD_eq, stB_end]

theorem jB_good {A : List FileP} {i : Nat} {p : FileP} (hp : A[i]? = some p) (h : i < jB A) : badF p = false := by
  obtain ⟨hi, rfl⟩ := List.getElem?_eq_some_iff.1 hp
  have := List.not_of_lt_findIdx h
  simpa using this

theorem jB_bad {A : List FileP} {p : FileP} (hp : A[jB A]? = some p) : badF p = true := by
  obtain ⟨hi, rfl⟩ := List.getElem?_eq_some_iff.1 hp
  exact List.findIdx_getElem (w := hi)

theorem outB_step {A : List FileP} {i : Nat} {p : FileP} (hp : A[i]? = some p) (h : i ≤ jB A) : outB A (i + 1) = outB A i ++ recsF p := by
  unfold outB
  rw [show min (i + 1) (jB A + 1) = i + 1 by omega, show min i (jB A + 1) = i by omega, List.take_add_one, hp]
  simp

theorem outB_stay {A : List FileP} {i : Nat} (h : jB A < i) : outB A (i + 1) = outB A i := by
  unfold outB
  rw [show min (i + 1) (jB A + 1) = jB A + 1 by omega, show min i (jB A + 1) = jB A + 1 by omega]

section
variable {A : List FileP} {i : Nat} {p : FileP}

theorem pre_ne (hs : Sorted A) (hp : A[i]? = some p) : ∀ x ∈ A.take i, x.n < p.n := fun x hx => by
  obtain ⟨hi, rfl⟩ := List.getElem?_eq_some_iff.1 hp
  obtain ⟨j, hj, rfl⟩ := List.getElem_of_mem hx
  rw [List.length_take] at hj
  rw [List.getElem_take]
  exact (List.pairwise_iff_getElem.1 hs) j i (by omega) hi (by omega)

theorem split_at (hp : A[i]? = some p) : A = A.take i ++ p :: A.drop (i + 1) := by
  obtain ⟨hi, rfl⟩ := List.getElem?_eq_some_iff.1 hp
  rw [← List.drop_eq_getElem_cons hi, List.take_append_drop]

/-- The block that isn't whole is cut. -/
theorem stB_cut (hs : Sorted A) (hp : A[jB A]? = some p) : getF A p.n = some p ∧ setF A (cutF p) = stB A (jB A + 1) := by
  have hA := split_at hp
  have hne : ∀ x ∈ A.take (jB A), x.n ≠ p.n := fun x hx => by have := pre_ne hs hp x hx; omega
  refine ⟨by conv => lhs; rw [hA]
             exact getF_mid _ _ _ hne, ?_⟩
  conv => lhs; rw [hA]
  rw [setF_mid _ p (cutF p) _ hne rfl]
  unfold stB
  rw [if_pos (by omega), hp]
  simp

theorem delF_mid : ∀ (pre : List FileP) (p : FileP) (post : List FileP), (∀ x ∈ pre, x.n ≠ p.n) → delF (pre ++ p :: post) p.n = pre ++ post
  | [], p, post, _ => by simp [delF]
  | a :: r, p, post, h => by
    rw [List.cons_append]
    unfold delF
    rw [if_neg (h a (by simp)), delF_mid r p post fun x hx => h x (by simp [hx])]
    rfl

/-- A block behind it is taken away. -/
theorem stB_del (hs : Sorted A) (hp : A[i]? = some p) (hj : jB A < i) : getF (stB A i) p.n = some p ∧ delF (stB A i) p.n = stB A (i + 1) := by
  obtain ⟨hi, e⟩ := List.getElem?_eq_some_iff.1 hp
  have hd : A.drop i = p :: A.drop (i + 1) := by rw [List.drop_eq_getElem_cons hi, e]
  have hlt := pre_ne hs hp
  have hne : ∀ x ∈ A.take (jB A) ++ ((A[jB A]?).map cutF).toList, x.n ≠ p.n := fun x hx => by
    rcases List.mem_append.1 hx with hx | hx
    · have h9 : A.take (jB A) = (A.take i).take (jB A) := by rw [List.take_take, Nat.min_eq_left (by omega)]
      rw [h9] at hx
      have := hlt x (List.mem_of_mem_take hx); omega
    · obtain ⟨q, hq⟩ : ∃ q, A[jB A]? = some q := ⟨_, List.getElem?_eq_getElem (by omega)⟩
      rw [hq] at hx
      simp at hx
      subst hx
      have hm : q ∈ A.take i := by
        obtain ⟨hjl, e2⟩ := List.getElem?_eq_some_iff.1 hq
        rw [List.mem_take_iff_getElem]
        exact ⟨jB A, by omega, e2⟩
      have := hlt q hm
      show q.n ≠ p.n
      omega
  have e1 : stB A i = (A.take (jB A) ++ ((A[jB A]?).map cutF).toList) ++ p :: A.drop (i + 1) := by unfold stB; rw [if_pos hj, hd]
  have e2 : stB A (i + 1) = (A.take (jB A) ++ ((A[jB A]?).map cutF).toList) ++ A.drop (i + 1) := by unfold stB; rw [if_pos (by omega)]
  rw [e1, e2]
  exact ⟨getF_mid _ _ _ hne, delF_mid _ _ _ hne⟩
end

theorem scan_len (s : List UInt8) : (scan s).1.length * 4 ≤ (scan s).2 := by
  have h : ∀ (f : Nat) (s : List UInt8), (scanF f s).1.length * 4 ≤ (scanF f s).2 := by
    intro f
    induction f with
    | zero => intro s; exact Nat.zero_le _
    | succ f ih =>
      intro s
      unfold scanF
      split
      · exact Nat.zero_le _
      · split
        · exact Nat.zero_le _
        · rename_i h1 h2
          have hz := decL_size (s := s) (by simpa using h2)
          have := ih (s.drop (decL s).2.1)
          show ((scanF f (s.drop (decL s).2.1)).1.length + 1) * 4 ≤ (decL s).2.1 + _
          omega
  exact h _ s

theorem recs_total : ∀ l : List FileP, (l.flatMap recsF).length ≤ total l
  | [] => Nat.zero_le _
  | p :: r => by
    have h1 := scan_len p.text
    have h2 := scan_le p.text
    have ih := recs_total r
    simp only [total]
    rw [List.flatMap_cons, List.length_append]
    unfold recsF at ih ⊢
    omega

theorem take_total : ∀ (l : List FileP) (k : Nat), total (l.take k) ≤ total l
  | [], k => by simp [total]
  | p :: r, 0 => by simp [total]
  | p :: r, k + 1 => by
    have := take_total r k
    simp only [List.take_succ_cons, total]
    omega

theorem outB_len {room : Int} {A : List FileP} (h : RightD room A) (i : Nat) : (outB A i).length ≤ 65536 := by
  have h1 := recs_total (A.take (min i (jB A + 1)))
  have h2 := take_total A (min i (jB A + 1))
  have h3 := h.fits
  have h4 := h.small
  unfold outB
  omega
end Go.Proofs.YtbgchhgdlceceaaGreatDoor.Log

namespace Go.Proofs.YtbgchhgdlceceaaGreatDoor.Heap
open Go Go.RowKit

section
variable {P : Program} {w : World}

theorem run_append_rows (t ty e : TypeId) (i : TypeInfo) (z : Value) (size bytes : Nat) (ht : P.underlying t = some (.slice e)) (hi : P.info? e = some i) (hz : i.zero = some z)
    (hsize : i.size = size) (hby : i.bytes = bytes) (hzs : z.cells.size = size) (hsz : 0 < size)
    (v u : Value) (n m : Nat) (xs ys : List Value) (hrow : Row w e size v n xs) (hsrc : Row w e size u m ys) (h1 : ∀ c ∈ ys, c.oneCell' = true)
    (h63 : n + m ≤ maxLen) (hbytes : (n + m) * bytes ≤ 140737488355328) :
    ∃ v' w', (Builtin.append_ #[t, t] ty #[v, u]).run P w = .ok v' w' ∧ Row w' e size v' (n + m) (xs ++ ys) ∧ Touch (own v) w w' ∧ ∀ k, own v' k → own v k ∨ w.heap.size ≤ k := by
  rcases hsrc.2 with ⟨rfl, rfl⟩ | ⟨g, off, cap, cur, rfl, _⟩
  · have hy : ys = [] := List.eq_nil_of_length_eq_zero (by have := hsrc.1; omega)
    subst hy
    refine ⟨v, w, ?_, by simpa using hrow, Touch.refl _ _, fun k hk => .inl hk⟩
    rcases hrow.2 with ⟨rfl, rfl⟩ | ⟨g, off, cap, cur, rfl, _, hnc, _⟩
    · simp [Builtin.append_, run_underlying ht, sizeOf, typeInfo, hi, Builtin.lenOf, Builtin.firstCells]
    · simp [Builtin.append_, run_underlying ht, sizeOf, typeInfo, hi, Builtin.lenOf, Builtin.firstCells, hnc, storeCells]
  · exact run_append_row (P := P) w t ty e i z size bytes ht hi hz hsize hby hzs hsz v n xs hrow ⟨g, off, none⟩ m cap ys hsrc.1 (fun j c hj => by
      have hjl := (List.getElem?_eq_some_iff.1 hj).1
      rw [hsrc.1] at hjl
      rw [Addr.add_lit, (hsrc.cell j hjl).1]; exact hj) h1 h63 hbytes

theorem wpList_append_rows {ops : Array Oper} {rest : List Oper} {o : Oper} {a : Act} {Q : Exit → Act → World → Prop} (hgd : o.guard = none) (s x : Operand) (t : TypeId)
    (ho : o.op = .call { callee := .builtin .append, args := #[s, x], argTypes := #[t, t] })
    (e : TypeId) (i : TypeInfo) (z : Value) (size bytes : Nat) (ht : P.underlying t = some (.slice e)) (hi : P.info? e = some i) (hz : i.zero = some z)
    (hsize : i.size = size) (hby : i.bytes = bytes) (hzs : z.cells.size = size) (hsz : 0 < size)
    (v u : Value) (n m : Nat) (xs ys : List Value) (hs : a.eval s = v) (hx : a.eval x = u) (hrow : Row w e size v n xs) (hsrc : Row w e size u m ys) (h1 : ∀ c ∈ ys, c.oneCell' = true)
    (h63 : n + m ≤ maxLen) (hbytes : (n + m) * bytes ≤ 140737488355328)
    (h : ∀ v' w', Row w' e size v' (n + m) (xs ++ ys) → Touch (own v) w w' → (∀ k, own v' k → own v k ∨ w.heap.size ≤ k) → wpList P ops Q rest (a.put o.dst v') w') : wpList P ops Q (o :: rest) a w :=
  wpList_plain hgd fun _ hK => by
    obtain ⟨v', w', hr, h2, h3, h4⟩ := run_append_rows (P := P) (w := w) t o.type e i z size bytes ht hi hz hsize hby hzs hsz v u n m xs ys hrow hsrc h1 h63 hbytes
    unfold Oper.wp execOp
    simp only [ho, resolve, invoke, builtin, Sem.run_bind, Sem.run_pure, Result.andThen_ok, List.map_toArray, List.map_cons, List.map_nil, hs, hx, hr]
    exact hK _ _ (h v' w' h2 h3 h4)
end
end Go.Proofs.YtbgchhgdlceceaaGreatDoor.Heap

namespace Go.Proofs.YtbgchhgdlceceaaGreatDoor.Log
open Go.RowKit Heap Dsk
open Subj (ML)
open Rec (Rc)
open Sto (recsV recsV_len recsV_append recsV_one info_rec)

section
variable {W w : World} {F : Nat → Prop} {D : Nat} {room : Int} {A : List FileP}

/-- The log at G: of the disk at D, of blocks of so many bytes. -/
def LogAt (D G : Nat) (size : Int) (w : World) : Prop := w.heap[G]? = some (.cells #[.pointer (some ⟨D, 0, none⟩), .int .i64 size] 197 (0, 0))

/-- What Open tells: a log, its records. -/
def OpenPost (W : World) (F : Nat → Prop) (D : Nat) (room size : Int) (A : List FileP) (w : World) (e : Ending) (w' : World) : Prop :=
  ((size < 1 ∨ 4096 < size) ∧ e = .returned (.tuple #[.pointer none, .slice none 0 0, .int .i64 1]) ∧ w = w') ∨
  (¬ (size < 1 ∨ 4096 < size) ∧ ∃ G v, e = .returned (.tuple #[.pointer (some ⟨G, 0, none⟩), v, .int .i64 0]) ∧ DiskAt W F D room (openD A).2 w' ∧ LogAt D G size w' ∧ w.heap.size ≤ G ∧ Row w' 33 6 v (openD A).1.length (recsV (openD A).1) ∧ (∀ k, own v k → w.heap.size ≤ k) ∧ Heap.Touch F w w')

def OR (W : World) (F : Nat → Prop) (D : Nat) (room : Int) (A : List FileP) (nv : Value) (w1 : World) (k : Nat) (o : Value) (wr : World) : Prop :=
  DiskAt W F D room (stB A k) wr ∧ Row wr 3 1 nv A.length (numsV (A.map (·.n))) ∧ Row wr 33 6 o (outB A k).length (recsV (outB A k)) ∧ (∀ j, own o j → w1.heap.size ≤ j) ∧ Heap.Touch F w1 wr

set_option maxHeartbeats 4000000 in
set_option maxRecDepth 100000 in
theorem open_any (h : DiskAt W F D room A w) (hm : ML W) (size : Int) : Calls Tryz.prog 42 #[.pointer (some ⟨D, 0, none⟩), .int .i64 size] w (OpenPost W F D room size A w) := by
  by_cases hsz : size < 1 ∨ 4096 < size
  · rcases (show size < 1 ∨ (¬ size < 1 ∧ 4096 < size) from by omega) with h1 | ⟨h1, h2⟩
    all_goals
      have HS := Lib.hid hsz
      clear hsz h hm
      go_enter Tryz.func42, Tryz.ntmps42
      go_wp2_with fail
      go_ret3
      exact .inl ⟨HS.out, rfl, rfl⟩
  · have hs1 : ¬ size < 1 := by omega
    have hs2 : ¬ (4096 : Int) < size := by omega
    have HSZ := Lib.hid hsz
    have HH := Lib.hid h; have HL := Lib.hid (list_any h); have HML := Lib.hid hm
    clear h hm hsz
    obtain ⟨i0, hi, hz0, hz1, hz2⟩ := info_parts info_rec
    go_enter Tryz.func42, Tryz.ntmps42
    go_wp2_with fail
    refine HL.out.mono ?_
    rintro e w1 ⟨nv, rfl, hN⟩
    obtain ⟨a1, n1, hv⟩ := hN.2.1.slice
    obtain ⟨hNb, hNr, hNo⟩ := hN
    have hlenA : (A.map (·.n)).length = A.length := List.length_map _
    rw [hlenA] at hNr hv
    subst hv
    have hD1 : DiskAt W (fun k => F k ∧ k < w.heap.size) D room A w1 := HH.out.shrink.kept (hNb.mono HH.out.below.size) fun k hk hk2 => hNb.block k hk2
    have hst0 : stB A 0 = A := by unfold stB; rw [if_neg (by omega)]
    have hou0 : outB A 0 = [] := by unfold outB; simp
    have H0 := Lib.hid (show OR W (fun k => F k ∧ k < w.heap.size) D room A (.slice a1 A.length n1) w1 0 (.slice none 0 0) w1 from ⟨by rw [hst0]; exact hD1, hNr, by rw [hou0]; exact Row.nil _ _ _, fun k hk => by simp [own, Value.ownBlock] at hk, Heap.Touch.refl _ _⟩)
    have HSORT := Lib.hid HH.out.right.sorted; have HRT := Lib.hid HH.out.right
    have HNB := Lib.hid hNb; have HNL := Lib.hid (show ∀ k, own (.slice a1 A.length n1) k → w.heap.size ≤ k ∧ k < w1.heap.size from fun k hk => ⟨hNo k hk, hNr.lt k hk⟩)
    have hlen20 : A.length ≤ 20 := HH.out.right.few
    clear hNb hNr hNo hlenA hD1 HL hst0 hou0
    obtain ⟨n, hn⟩ : ∃ n, A.length = n := ⟨_, rfl⟩
    rw [hn] at hlen20 H0 HNL ⊢
    have HN := Lib.hid hn
    clear hn
    go_wp2_with fail
    go_loopw [7, 8, 24] (fun o b i wr => ∃ k : Nat, k ≤ n ∧ i = .int .i64 k ∧ b = .bool (decide (jB A < k)) ∧ Hid (OR W (fun k => F k ∧ k < w.heap.size) D room A (.slice a1 n n1) w1 k o wr)) (fun _ _ i _ => n - (intOf i).toNat)
    case atStart => exact ⟨0, Nat.zero_le _, rfl, by simp, H0⟩
    case round =>
      obtain ⟨k, hk, rfl, rfl, HR⟩ := hrel
      clear H0
      obtain ⟨hd, hnr, hor, hoo, ht⟩ := HR.out
      rw [HN.out] at hnr
      by_cases hlt : k < n
      · have hltz : (k : Int) < n := by omega
        obtain ⟨p, hp⟩ : ∃ p, A[k]? = some p := ⟨_, List.getElem?_eq_getElem (by rw [HN.out]; exact hlt)⟩
        rcases hnr.2 with ⟨_, h0⟩ | ⟨g, off, cap, cur, hv, _⟩
        · omega
        simp only [Value.slice.injEq, true_and] at hv
        obtain ⟨rfl, rfl⟩ := hv
        have hcell := hnr.cell k (by omega)
        have hnk : (numsV (A.map (·.n)))[k]? = some (.int .i64 p.n) := by
          obtain ⟨hkl, e⟩ := List.getElem?_eq_some_iff.1 hp
          subst e
          simp [numsV, hkl]
        rw [hnk] at hcell
        have hc0 := hcell.1
        have hgl := hnr.lt g (by simp [own, Value.ownBlock])
        have hpnum := HRT.out.num p (List.mem_of_getElem? hp)
        have hplen := HRT.out.len (List.mem_of_getElem? hp)
        have HPN := Lib.hid (show -9223372036854775808 ≤ p.n ∧ p.n ≤ 9223372036854775807 from ⟨by omega, by omega⟩)
        have HP := Lib.hid hp
        by_cases hbr : jB A < k
        · have hd1 : decide (jB A < k) = true := decide_eq_true hbr
          rw [hd1]
          obtain ⟨hg, hdl⟩ := stB_del HSORT.out hp hbr
          have hrm := remove_any hd p.n HPN.out
          have hrd : removeD (stB A k) p.n = (stB A (k + 1), 0) := by unfold removeD; rw [hg]; simp only; rw [hdl]
          rw [hrd] at hrm
          have HRM := Lib.hid hrm; have HOS := Lib.hid (outB_stay hbr)
          have HRR := Lib.hid (show Row wr 3 1 (.slice (some ⟨g, off, none⟩) n n1) n (numsV (A.map (·.n))) ∧ Row wr 33 6 u7 (outB A k).length (recsV (outB A k)) ∧ (∀ j, own u7 j → w1.heap.size ≤ j) ∧ Heap.Touch (fun k => F k ∧ k < w.heap.size) w1 wr from ⟨hnr, hor, hoo, ht⟩)
          clear hp hcell hnk hg hdl hrm hrd hd hnr hor hoo ht HR hd1
          go_wp2_with fail
          refine HRM.out.mono ?_
          rintro e w2 ⟨rfl, hd2, ht2⟩
          have hk1 : decide (jB A < k + 1) = true := decide_eq_true (by omega)
          have HNX := Lib.hid (show OR W (fun k => F k ∧ k < w.heap.size) D room A (.slice (some ⟨g, off, none⟩) n n1) w1 (k + 1) u7 w2 from by
            obtain ⟨r1, r2, r3, r4⟩ := HRR.out
            refine ⟨hd2, by rw [HN.out]; exact r1.kept fun j hj hlt => ht2.block j hlt fun e => by have := (HNL.out j hj).1; omega, ?_, r3, r4.after ht2⟩
            rw [HOS.out]
            exact r2.kept fun j hj hlt => ht2.block j hlt fun e => by have := r3 j hj; have := HNB.out.size; omega)
          clear hd2 ht2 HRM HRR
          go_wp2_with fail
          exact ⟨⟨k + 1, by omega, by go_num, by rw [decide_eq_true (show jB A < k + 1 by omega)], HNX⟩, by simp [intOf]; omega⟩
        · have hd1 : decide (jB A < k) = false := decide_eq_false hbr
          rw [hd1]
          have hst : stB A k = A := by unfold stB; rw [if_neg hbr]
          rw [hst] at hd
          have hgf := getF_mem HSORT.out (List.mem_of_getElem? hp)
          have hrd := read_any hd p.n HPN.out
          have hrdd : readD A p.n = (p.text, 0) := by unfold readD; rw [hgf]
          rw [hrdd] at hrd
          simp only at hrd
          obtain ⟨T, hT⟩ : ∃ T : ByteArray, (⟨p.text.toArray⟩ : ByteArray) = T := ⟨_, rfl⟩
          have hTl : T.data.toList = p.text := by rw [← hT]
          have hTs : T.size = p.text.length := by rw [← hT]; show p.text.toArray.size = _; simp
          rw [hT] at hrd
          have hwr : Below W.heap.size W wr := hd.below
          have hsc := scan_any T (by omega) (HML.out.below hwr)
          rw [hTl] at hsc
          obtain ⟨sc, hsce⟩ : ∃ sc, scan p.text = sc := ⟨_, rfl⟩
          rw [hsce] at hsc
          have hscl := scan_len p.text
          have hsle := scan_le p.text
          rw [hsce] at hscl hsle
          obtain ⟨rs, at_⟩ := sc
          simp only at hscl hsle
          obtain ⟨oa, oc, hov⟩ := hor.slice
          obtain ⟨ol, hol⟩ : ∃ ol, (outB A k).length = ol := ⟨_, rfl⟩
          have holb : ol ≤ 65536 := by rw [← hol]; exact outB_len HRT.out k
          rw [hol] at hor hov
          subst hov
          have hostep := outB_step hp (show k ≤ jB A by omega)
          rw [show recsF p = rs from by unfold recsF; rw [hsce]] at hostep
          have HRD := Lib.hid hrd; have HSC := Lib.hid hsc; have HOS := Lib.hid hostep; have HST := Lib.hid hst; have HSE := Lib.hid hsce; have HD := Lib.hid hd; have HTS := Lib.hid hTs; have HOL := Lib.hid hol; have HGF := Lib.hid hgf
          have HRR := Lib.hid (show Row wr 3 1 (.slice (some ⟨g, off, none⟩) n n1) n (numsV (A.map (·.n))) ∧ Row wr 33 6 (.slice oa ol oc) ol (recsV (outB A k)) ∧ (∀ j, own (.slice oa ol oc) j → w1.heap.size ≤ j) ∧ Heap.Touch (fun k => F k ∧ k < w.heap.size) w1 wr from ⟨hnr, hor, hoo, ht⟩)
          have hatb : at_ ≤ 65536 := by omega
          clear hp hcell hnk hd hnr hor hoo ht HR hd1 hst hgf hrd hrdd hT hTl hTs hwr hsc hsce hostep hol
          go_wp2_with fail
          refine HRD.out.mono ?_
          rintro e w' ⟨rfl, rfl⟩
          go_wp2_with fail
          refine HSC.out.mono ?_
          rintro e w2 ⟨sv, rfl, hr2, ho2, hb2⟩
          have hro2 : Row w2 33 6 (.slice oa ol oc) ol (recsV (outB A k)) := HRR.out.2.1.kept fun j _ hj => hb2.block j hj
          have HR2 := Lib.hid hr2; have HRO2 := Lib.hid hro2; have HO2 := Lib.hid ho2; have HB2 := Lib.hid hb2
          obtain ⟨sa, scp, rfl⟩ := hr2.slice
          clear hr2 ho2 hb2 hro2 HRD HSC
          go_wp2_with (at_builtin; refine Heap.wpList_append_rows rfl (.tmp 43) (.tmp 44) 25 rfl 33 i0 _ 6 72 Tryz.underlying25 hi hz0 hz1 hz2 rfl (by decide) _ _ ol rs.length _ _ rfl rfl HRO2.out HR2.out (recsV_one rs) (by unfold maxLen; omega) (by omega) ?_)
          intro v3 w3 r3 t3 o3
          have HN3 := Lib.hid (show DiskAt W (fun k => F k ∧ k < w.heap.size) D room A w3 ∧ Row w3 3 1 (.slice (some ⟨g, off, none⟩) n n1) n (numsV (A.map (·.n))) ∧ Row w3 33 6 v3 (outB A (k + 1)).length (recsV (outB A (k + 1))) ∧ (∀ j, own v3 j → w1.heap.size ≤ j) ∧ Heap.Touch (fun k => F k ∧ k < w.heap.size) w1 w3 from by
            have hwW := HD.out.below.size
            have hb2 := HB2.out
            obtain ⟨r1, _, r3', r4⟩ := HRR.out
            have hw1s : w.heap.size ≤ w1.heap.size := HNB.out.size
            have hw1r : w1.heap.size ≤ wr.heap.size := r4.size
            have hWw : W.heap.size ≤ w.heap.size := HH.out.below.size
            have ht23 : Heap.Touch (own (.slice oa ol oc)) wr w3 := (Heap.Touch.ofBelow hb2).after t3
            refine ⟨HD.out.kept (ht23.below (by omega) fun j hj => by have := r3' j hj; omega) fun j hj hlt => ht23.block j hlt fun e => by have := r3' j e; have := hj.2; omega, r1.kept fun j hj hlt => ht23.block j hlt fun e => by have := r3' j e; have := (HNL.out j hj).2; omega, ?_, fun j hj => ?_, ?_⟩
            · rw [HOS.out, List.length_append, HOL.out, recsV_append]; exact r3
            · rcases o3 j hj with e | e
              · exact r3' j e
              · have := hb2.size; omega
            · refine ⟨ht23.os.trans r4.os, ht23.tape.trans r4.tape, ht23.output.trans r4.output, Nat.le_trans r4.size ht23.size, fun j hj hnF => ?_⟩
              exact (ht23.block j (by omega) fun e => by have := r3' j e; omega).trans (r4.block j hj hnF))
          clear r3 t3 o3 HR2 HRO2 HO2 HB2 HD HRR
          by_cases hbad : at_ < p.text.length
          · have hjk : k = jB A := by
              rcases Nat.lt_or_ge k (jB A) with h | h
              · have := jB_good HP.out h
                unfold badF at this
                rw [HSE.out] at this
                simp at this; omega
              · omega
            have hbz : (at_ : Int) < T.size := by rw [HTS.out]; omega
            have hbn : at_ < T.size := by rw [HTS.out]; exact hbad
            obtain ⟨hg2, hset⟩ := stB_cut HSORT.out (by rw [← hjk]; exact HP.out)
            have hct := cut_any HN3.out.1 p.n at_ HPN.out
            have hcd : cutD A p.n at_ = (stB A (jB A + 1), 0) := by
              unfold cutD
              rw [HGF.out]
              simp only
              rw [if_neg (by omega), ← hset]
              unfold cutF
              rw [HSE.out]
              simp
            rw [hcd] at hct
            have HCT := Lib.hid hct
            have HJK := Lib.hid hjk
            clear hg2 hset hct hcd hjk hbad
            go_wp2_with fail
            refine HCT.out.mono ?_
            rintro e w4 ⟨rfl, hd4, ht4⟩
            have HNX := Lib.hid (show OR W (fun k => F k ∧ k < w.heap.size) D room A (.slice (some ⟨g, off, none⟩) n n1) w1 (k + 1) v3 w4 from by
              obtain ⟨_, r1, r2, r3, r4⟩ := HN3.out
              refine ⟨by rw [HJK.out]; exact hd4, by rw [HN.out]; exact r1.kept fun j hj hlt => ht4.block j hlt fun e => by have := (HNL.out j hj).1; omega, r2.kept fun j hj hlt => ht4.block j hlt fun e => by have := r3 j hj; have := HNB.out.size; omega, r3, r4.after ht4⟩)
            clear hd4 ht4 HCT
            go_wp2_with fail
            exact ⟨⟨k + 1, by omega, by go_num, by rw [decide_eq_true (show jB A < k + 1 by have := HJK.out; omega)], HNX⟩, by simp [intOf]; omega⟩
          · have hjk : k < jB A := by
              rcases Nat.lt_or_ge k (jB A) with h | h
              · exact h
              · have e : k = jB A := by omega
                have := jB_bad (p := p) (by rw [← e]; exact HP.out)
                unfold badF at this
                rw [HSE.out] at this
                simp at this; omega
            have hbz : ¬ (at_ : Int) < T.size := by rw [HTS.out]; omega
            have hbn : ¬ at_ < T.size := by rw [HTS.out]; exact hbad
            have HNX := Lib.hid (show OR W (fun k => F k ∧ k < w.heap.size) D room A (.slice (some ⟨g, off, none⟩) n n1) w1 (k + 1) v3 w3 from by
              obtain ⟨r0, r1, r2, r3, r4⟩ := HN3.out
              exact ⟨by unfold stB; rw [if_neg (by omega)]; exact r0, by rw [HN.out]; exact r1, r2, r3, r4⟩)
            clear hbad
            go_wp2_with fail
            exact ⟨⟨k + 1, by omega, by go_num, by rw [decide_eq_false (show ¬ jB A < k + 1 by omega)], HNX⟩, by simp [intOf]; omega⟩
      · have hltz : ¬ (k : Int) < n := by omega
        obtain rfl : k = n := by omega
        have hop := openD_all A
        rw [HN.out] at hop
        obtain ⟨G, hGe⟩ : ∃ G, wr.heap.size = G := ⟨_, rfl⟩
        obtain ⟨oa, oc, hov⟩ := hor.slice
        subst hov
        have HF := Lib.hid (show OpenPost W F D room size A w (.returned (.tuple #[.pointer (some ⟨G, 0, none⟩), .slice oa (outB A k).length oc, .int .i64 0])) (wr.alloc (.cells #[.pointer (some ⟨D, 0, none⟩), .int .i64 size] 197)) from by
          have hal : Below wr.heap.size wr (wr.alloc (.cells #[.pointer (some ⟨D, 0, none⟩), .int .i64 size] 197)) := (Below.refl _ _).alloc (Nat.le_refl _) _
          have hw1s : w.heap.size ≤ w1.heap.size := HNB.out.size
          have hw1r : w1.heap.size ≤ wr.heap.size := ht.size
          refine .inr ⟨HSZ.out, G, _, rfl, ?_, ?_, by omega, ?_, fun j hj => by have := hoo j hj; omega, ?_⟩
          · rw [hop]
            have hdn := hd.kept (hal.mono hd.below.size) fun j hj hlt => hal.block j hlt
            exact hdn.mono (fun j hj => hj.1) HH.out.newF
          · unfold LogAt; rw [← hGe]; exact heap_alloc_new wr _
          · rw [hop]; exact hor.kept fun j _ hj => hal.block j hj
          · exact ((Heap.Touch.ofBelow (F := F) HNB.out).after (ht.mono fun j _ e => e.1)).after (Heap.Touch.ofBelow hal))
        have HG := Lib.hid hGe
        clear hop hGe hd hnr hor hoo ht HR
        go_wp2_with fail
        rw [HG.out]
        go_ret3
        exact HF.out
end
end Go.Proofs.YtbgchhgdlceceaaGreatDoor.Log
