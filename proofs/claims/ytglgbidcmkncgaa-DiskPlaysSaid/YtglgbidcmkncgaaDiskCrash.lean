/- The disk's Crash. -/
import Derived.Test.YtglgbidcmkncgaaDiskList
import Derived.Deep.CutRange
namespace Go.Proofs.Ytglgbidcmkncgaa.Dsk
open Go.RowKit Go.Maps Heap

/-! ### in plain Lean -/
def crashI (K i : Nat) (A : List FileP) : List FileP := (A.take i).map (keptF K) ++ A.drop i

theorem crashI_zero (K : Nat) (A : List FileP) : crashI K 0 A = A := by simp [crashI]
theorem crashI_all (K : Nat) (A : List FileP) : crashI K A.length A = crashD A K := by simp [crashI, crashD]

theorem getF_mid : ∀ (pre : List FileP) (p : FileP) (post : List FileP), (∀ x ∈ pre, x.n ≠ p.n) → getF (pre ++ p :: post) p.n = some p
  | [], p, post, _ => by simp [getF]
  | a :: r, p, post, h => by
    rw [List.cons_append]
    unfold getF
    rw [if_neg (h a (by simp))]
    exact getF_mid r p post fun x hx => h x (List.mem_cons_of_mem _ hx)

theorem setF_mid : ∀ (pre : List FileP) (p q : FileP) (post : List FileP), (∀ x ∈ pre, x.n ≠ q.n) → p.n = q.n → setF (pre ++ p :: post) q = pre ++ q :: post
  | [], p, q, post, _, e => by simp [setF, e]
  | a :: r, p, q, post, h, e => by
    rw [List.cons_append]
    unfold setF
    rw [if_neg (h a (by simp)), setF_mid r p q post (fun x hx => h x (List.mem_cons_of_mem _ hx)) e]
    rfl

theorem crashI_at {K i : Nat} {A : List FileP} (hs : Sorted A) (hi : i < A.length) : getF (crashI K i A) A[i].n = some A[i] ∧ setF (crashI K i A) (keptF K A[i]) = crashI K (i + 1) A := by
  have hpre : ∀ x ∈ (A.take i).map (keptF K), x.n ≠ A[i].n := by
    intro x hx
    obtain ⟨y, hy, rfl⟩ := List.mem_map.1 hx
    obtain ⟨j, hj, rfl⟩ := List.getElem_of_mem hy
    rw [List.length_take] at hj
    rw [List.getElem_take]
    have := (List.pairwise_iff_getElem.1 hs) j i (by omega) hi (by omega)
    show A[j].n ≠ A[i].n
    omega
  have hd : A.drop i = A[i] :: A.drop (i + 1) := List.drop_eq_getElem_cons hi
  constructor
  · unfold crashI; rw [hd]; exact getF_mid _ _ _ hpre
  · unfold crashI
    rw [hd, setF_mid _ A[i] (keptF K A[i]) _ hpre rfl, List.take_add_one, List.getElem?_eq_getElem hi]
    show _ = ((A.take i) ++ [A[i]]).map (keptF K) ++ _
    rw [List.map_append]
    simp

section
variable {W w : World} {F : Nat → Prop} {D : Nat} {room : Int} {A : List FileP}

/-- Its blocks are those that there are. -/
theorem DiskAt.shrink (h : DiskAt W F D room A w) : DiskAt W (fun k => F k ∧ k < w.heap.size) D room A w := by
  obtain ⟨M, β, X, hm⟩ := h.mem
  exact ⟨h.right, h.below, fun k hk => h.newF k hk.1, M, β, X, { hm with fD := ⟨hm.fD, hm.ltD⟩, fM := ⟨hm.fM, hm.ltM⟩, fF := fun p hp => ⟨hm.fF p hp, hm.ltF hp⟩ }⟩

def CR (W : World) (G : Nat → Prop) (D : Nat) (room : Int) (K : Nat) (A : List FileP) (v : Value) (w1 : World) (k : Nat) (wr : World) : Prop :=
  DiskAt W G D room (crashI K k A) wr ∧ Row wr 3 1 v A.length (numsV (A.map (·.n))) ∧ Heap.Touch G w1 wr

set_option maxHeartbeats 2000000 in
set_option maxRecDepth 100000 in
theorem crash_any (h : DiskAt W F D room A w) (keep : Int) : Calls Try.prog 22 #[.pointer (some ⟨D, 0, none⟩), .int .i64 keep] w fun e w' => e = .returned (.tuple #[]) ∧ DiskAt W F D room (crashD A keep.toNat) w' ∧ Heap.Touch F w w' := by
  have HH := Lib.hid h; have HL := Lib.hid (list_any h)
  obtain ⟨K, hK⟩ : ∃ K : Nat, max keep 0 = (K : Int) ∧ keep.toNat = K := ⟨keep.toNat, by omega, rfl⟩
  rw [hK.2]
  have HK := Lib.hid hK.1
  have hmx : max keep 0 = (K : Int) := hK.1
  clear h hK
  go_enter Try.func22, Try.ntmps22
  go_upto_region 0 with fail
  go_cut [1] from 8 to 10 (fun s1 wx => s1 = .int .i64 K ∧ w = wx)
  case first =>
    by_cases hneg : keep < 0
    · have h0 : (K : Int) = 0 := by rw [← hmx]; omega
      clear hmx
      go_wp2_with fail
      go_meet
      exact ⟨val_int (by omega), rfl⟩
    · have h0 : (K : Int) = keep := by rw [← hmx]; omega
      clear hmx
      go_wp2_with fail
      go_meet
      exact ⟨val_int (by omega), rfl⟩
  case rest =>
  obtain ⟨rfl, rfl⟩ := hcut
  clear hmx
  go_wp2_with fail
  refine HL.out.mono ?_
  rintro e w1 ⟨v, rfl, hN⟩
  obtain ⟨a1, n1, hv⟩ := hN.2.1.slice
  obtain ⟨hNb, hNr, hNo⟩ := hN
  have hlenA : (A.map (·.n)).length = A.length := List.length_map _
  rw [hlenA] at hNr hv
  subst hv
  have hD1 : DiskAt W (fun k => F k ∧ k < w.heap.size) D room A w1 := HH.out.shrink.kept (hNb.mono HH.out.below.size) fun k hk hk2 => hNb.block k hk2
  have H0 := Lib.hid (show CR W (fun k => F k ∧ k < w.heap.size) D room K A (.slice a1 A.length n1) w1 0 w1 from ⟨by rw [crashI_zero]; exact hD1, hNr, Heap.Touch.refl _ _⟩)
  have HB := Lib.hid hNb; have HO := Lib.hid hNo; have HFEW := Lib.hid HH.out.right.few; have HSORT := Lib.hid HH.out.right.sorted
  have HEND := Lib.hid (fun w' (q : CR W (fun k => F k ∧ k < w.heap.size) D room K A (.slice a1 A.length n1) w1 A.length w') => (by
    obtain ⟨q1, q2, q3⟩ := q
    rw [crashI_all] at q1
    have hnF := HH.out.newF
    exact ⟨q1.mono (fun k hk => hk.1) hnF, (Heap.Touch.ofBelow (F := F) hNb).after (q3.mono fun k _ hk => hk.1)⟩ : DiskAt W F D room (crashD A K) w' ∧ Heap.Touch F w w'))
  have hlen20 : A.length ≤ 20 := HH.out.right.few
  clear hNb hNr hNo hlenA hD1 HH HL
  obtain ⟨L, hL⟩ : ∃ L, A.length = L := ⟨_, rfl⟩
  rw [hL] at hlen20 H0 HEND ⊢
  have HLL := Lib.hid hL
  clear hL
  go_wp2_with fail
  go_loopw [13] (fun i wr => ∃ k : Nat, k ≤ L ∧ i = .int .i64 k ∧ Hid (CR W (fun k => F k ∧ k < w.heap.size) D room K A (.slice a1 L n1) w1 k wr)) (fun i _ => L - (intOf i).toNat)
  case atStart => exact ⟨0, Nat.zero_le _, rfl, H0⟩
  case round =>
    obtain ⟨k, hk, rfl, HR⟩ := hrel
    clear H0
    by_cases hlt : k < L
    · have hltz : (k : Int) < L := by omega
      have hkA : k < A.length := by rw [HLL.out]; exact hlt
      obtain ⟨hDk, hRow, hT⟩ := HR.out
      rw [HLL.out] at hRow
      have hat := crashI_at (K := K) HSORT.out hkA
      have hnk : (numsV (A.map (·.n)))[k]? = some (.int .i64 A[k].n) := by simp [numsV, hkA]
      generalize A[k] = p at hat hnk
      obtain ⟨hg, hset⟩ := hat
      obtain ⟨hpn, hpm⟩ := getF_n hg
      obtain ⟨M, β, X, hm⟩ := hDk.mem
      obtain ⟨c0, c1, c2, cf⟩ := threeC hm.cells
      have hf := hm.files p hpm
      obtain ⟨T, hTt, hTs, hTl⟩ := text_of p.text
      rw [← hTt] at hf
      obtain ⟨f0, f1, ff⟩ := twoC hf
      have hnum := hDk.right.num p hpm
      have hlen := hDk.right.len hpm
      have hsure := hDk.right.sure p hpm
      obtain ⟨S, hS⟩ : ∃ S : Nat, S = p.sure + min K (p.text.length - p.sure) := ⟨_, rfl⟩
      have hcut : cutD (crashI K k A) p.n S = (crashI K (k + 1) A, 0) := by
        unfold cutD
        rw [hg]
        simp only
        rw [if_neg (by omega), ← hset]
        unfold keptF
        rw [← hS]
        rfl
      have HCUT := Lib.hid (fun wr' (q : DiskAt W (fun k => F k ∧ k < w.heap.size) D room (crashI K k A) wr') => (by have := cut_any q p.n S ⟨by omega, by omega⟩; rw [hcut] at this; exact this : Calls Try.prog 32 #[.pointer (some ⟨D, 0, none⟩), .int .i64 p.n, .int .i64 S] wr' fun e w' => e = .returned (.int .i64 0) ∧ DiskAt W (fun k => F k ∧ k < w.heap.size) D room (crashI K (k + 1) A) w' ∧ Heap.Touch (fun k => F k ∧ k < w.heap.size) wr' w'))
      have hown := Lib.hid hm.own
      have HAT := Lib.hid (hm.at_ p hpm)
      have HNUM := Lib.hid (show -9223372036854775808 ≤ p.n ∧ p.n ≤ 9223372036854775807 from ⟨by omega, by omega⟩)
      rw [← hTs] at hS hlen hsure
      have HS := Lib.hid hS; have HSU := Lib.hid hsure; have HLN := Lib.hid hlen
      have hrow2 := hRow.2
      rcases hrow2 with ⟨hv, h0⟩ | ⟨g, off, cap, cur, hv, hgb, h1, h2, h3, h4⟩
      · omega
      simp only [Value.slice.injEq, true_and] at hv
      obtain ⟨rfl, rfl⟩ := hv
      have hcell := (hRow.cell k (by omega)).1
      rw [hnk] at hcell
      have wa1 : IntKind.i64.wrap ((T.size : Int) - (p.sure : Int)) = (T.size : Int) - (p.sure : Int) := IntWalk.i64_in _ (by omega)
      have w2 : IntKind.i64.wrap ((p.sure : Int) + (K : Int)) = (p.sure : Int) + (K : Int) ∨ (T.size : Int) - (p.sure : Int) < K := by
        by_cases hc : (T.size : Int) - (p.sure : Int) < K
        · exact .inr hc
        · exact .inl (IntWalk.i64_in _ (by omega))
      have HW2 := Lib.hid w2
      have wa3 : IntKind.i64.wrap ((p.sure : Int) + ((T.size : Int) - (p.sure : Int))) = (T.size : Int) := by rw [IntWalk.i64_in _ (by omega)]; omega
      have HCR := Lib.hid (fun w' (q : DiskAt W (fun k => F k ∧ k < w.heap.size) D room (crashI K (k + 1) A) w') (q2 : Heap.Touch (fun k => F k ∧ k < w.heap.size) wr.drew w') => (by
        refine ⟨q, ?_, hT.drew.after q2⟩
        rw [HLL.out]
        refine hRow.kept ?_
        intro j hj hj2
        exact q2.block j hj2 (fun hh => by have := HO.out j hj; omega) : CR W (fun k => F k ∧ k < w.heap.size) D room K A (.slice (some ⟨g, off, none⟩) L n1) w1 (k + 1) w'))
      have HDD := Lib.hid (hDk.kept (w' := wr.drew) (Below.refl _ _).drew (fun _ _ _ => rfl))
      clear hDk hRow hT hg hset hpn hpm hm hf hTt hTs hTl hnum hlen hcut hS hgb h1 h2 h3 h4 hnk w2 HR hsure
      go_upto_region 5 with (first | (at_lookup; refine look_at _ rfl _ _ rfl M _ X rfl hown.out p.n rfl HNUM.out (β p.n) HAT.out ?_))
      go_cut [7] from 23 to 39 (fun s7 wx => s7 = .int .i64 S ∧ wr.drew = wx)
      case first =>
        have hS2 : (p.sure : Int) + min (K : Int) ((T.size : Int) - (p.sure : Int)) = S := by have := HS.out; have := HSU.out; omega
        have hS3 : wrap64 ((p.sure : Int) + min (K : Int) ((T.size : Int) - (p.sure : Int))) = S := by rw [hS2]; exact IntWalk.wrap64_in _ (by have := HS.out; have := HSU.out; have := HLN.out; omega)
        have HS3 := Lib.hid hS3
        clear HW2 HCUT HCR HDD hS2 hS3 wa3
        go_region
        go_wp2_with fail
        go_meet
        exact ⟨val_int HS3.out, rfl⟩
      case rest =>
      obtain ⟨rfl, rfl⟩ := hcut
      go_wp2_with fail
      refine (HCUT.out _ HDD.out).mono ?_
      rintro e w' ⟨rfl, q1, q2⟩
      have HF := Lib.hid (HCR.out w' q1 q2)
      clear q1 q2 HCUT HCR HDD
      go_wp2_with fail
      exact ⟨⟨k + 1, by omega, by go_num, HF⟩, by simp [intOf]; omega⟩
    · have hltz : ¬ (k : Int) < L := by omega
      obtain rfl : k = L := by omega
      go_wp2
      go_end0
      exact ⟨rfl, HEND.out _ HR.out⟩
end
end Go.Proofs.Ytglgbidcmkncgaa.Dsk
