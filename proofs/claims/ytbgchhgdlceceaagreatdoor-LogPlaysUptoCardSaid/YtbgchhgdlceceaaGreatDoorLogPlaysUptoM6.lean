/- Parts of the proof, joined: The disk's Crash.; The reference's disk: Crash.; slices.Insert of one paper, walked.; slices.Insert of one paper where there is room. -/
import Derived.Test.YtbgchhgdlceceaaGreatDoorLogPlaysUptoM5
import Derived.Lib.AppendZerosOnto
import Derived.Lib.Overlaps
import Derived.Laws.CopyRow
import Derived.Shelf.Spec.SlicesInsert
namespace Go.Proofs.YtbgchhgdlceceaaGreatDoor.Dsk
open Go.RowKit Go.Maps Heap

/-! ### in plain Lean -/
def crashI (K i : Nat) (A : List FileP) : List FileP := (A.take i).map (keptF K) ++ A.drop i

theorem crashI_zero (K : Nat) (A : List FileP) : crashI K 0 A = A := by simp [crashI]
theorem crashI_all (K : Nat) (A : List FileP) : crashI K A.length A = crashD A K := by simp [crashI, crashD]

theorem getF_mid : ∀ (pre : List FileP) (p : FileP) (post : List FileP), (∀ x ∈ pre, x.n ≠ p.n) → getF (pre ++ p :: post) p.n = some p
  | [], p, post, _ => by simp [getF]
  | a :: r, p, post, h => by
    rw [List.cons_append]
    unfold getF
    rw [if_neg (h a (by simp))]
    exact getF_mid r p post fun x hx => h x (List.mem_cons_of_mem _ hx)

theorem setF_mid : ∀ (pre : List FileP) (p q : FileP) (post : List FileP), (∀ x ∈ pre, x.n ≠ q.n) → p.n = q.n → setF (pre ++ p :: post) q = pre ++ q :: post
  | [], p, q, post, _, e => by simp [setF, e]
  | a :: r, p, q, post, h, e => by
    rw [List.cons_append]
    unfold setF
    rw [if_neg (h a (by simp)), setF_mid r p q post (fun x hx => h x (List.mem_cons_of_mem _ hx)) e]
    rfl

theorem crashI_at {K i : Nat} {A : List FileP} (hs : Sorted A) (hi : i < A.length) : getF (crashI K i A) A[i].n = some A[i] ∧ setF (crashI K i A) (keptF K A[i]) = crashI K (i + 1) A := by
  have hpre : ∀ x ∈ (A.take i).map (keptF K), x.n ≠ A[i].n := by
    intro x hx
    obtain ⟨y, hy, rfl⟩ := List.mem_map.1 hx
    obtain ⟨j, hj, rfl⟩ := List.getElem_of_mem hy
    rw [List.length_take] at hj
    rw [List.getElem_take]
    have := (List.pairwise_iff_getElem.1 hs) j i (by omega) hi (by omega)
    show A[j].n ≠ A[i].n
    omega
  have hd : A.drop i = A[i] :: A.drop (i + 1) := List.drop_eq_getElem_cons hi
  constructor
  · unfold crashI; rw [hd]; exact getF_mid _ _ _ hpre
  · unfold crashI
    rw [hd, setF_mid _ A[i] (keptF K A[i]) _ hpre rfl, List.take_add_one, List.getElem?_eq_getElem hi]
    show _ = ((A.take i) ++ [A[i]]).map (keptF K) ++ _
    rw [List.map_append]
    simp

section
variable {W w : World} {F : Nat → Prop} {D : Nat} {room : Int} {A : List FileP}

/-- Its blocks are those that there are. -/
theorem DiskAt.shrink (h : DiskAt W F D room A w) : DiskAt W (fun k => F k ∧ k < w.heap.size) D room A w := by
  obtain ⟨M, β, X, hm⟩ := h.mem
  exact ⟨h.right, h.below, fun k hk => h.newF k hk.1, M, β, X, { hm with fD := ⟨hm.fD, hm.ltD⟩, fM := ⟨hm.fM, hm.ltM⟩, fF := fun p hp => ⟨hm.fF p hp, hm.ltF hp⟩ }⟩

def CR (W : World) (G : Nat → Prop) (D : Nat) (room : Int) (K : Nat) (A : List FileP) (v : Value) (w1 : World) (k : Nat) (wr : World) : Prop :=
  DiskAt W G D room (crashI K k A) wr ∧ Row wr 3 1 v A.length (numsV (A.map (·.n))) ∧ Heap.Touch G w1 wr

set_option maxHeartbeats 2000000 in
set_option maxRecDepth 100000 in
theorem crash_any (h : DiskAt W F D room A w) (keep : Int) : Calls Tryz.prog 54 #[.pointer (some ⟨D, 0, none⟩), .int .i64 keep] w fun e w' => e = .returned (.tuple #[]) ∧ DiskAt W F D room (crashD A keep.toNat) w' ∧ Heap.Touch F w w' := by
  have HH := Lib.hid h; have HL := Lib.hid (list_any h)
  obtain ⟨K, hK⟩ : ∃ K : Nat, max keep 0 = (K : Int) ∧ keep.toNat = K := ⟨keep.toNat, by omega, rfl⟩
  rw [hK.2]
  have HK := Lib.hid hK.1
  have hmx : max keep 0 = (K : Int) := hK.1
  clear h hK
  go_enter Tryz.func54, Tryz.ntmps54
  go_upto_region 0 with fail
  go_cut [1] from 8 to 10 (fun s1 wx => s1 = .int .i64 K ∧ w = wx)
  case first =>
    by_cases hneg : keep < 0
    · have h0 : (K : Int) = 0 := by rw [← hmx]; omega
      clear hmx
      go_wp2_with fail
      go_meet
      exact ⟨val_int (by omega), rfl⟩
    · have h0 : (K : Int) = keep := by rw [← hmx]; omega
      clear hmx
      go_wp2_with fail
      go_meet
      exact ⟨val_int (by omega), rfl⟩
  case rest =>
  obtain ⟨rfl, rfl⟩ := hcut
  clear hmx
  go_wp2_with fail
  refine HL.out.mono ?_
  rintro e w1 ⟨v, rfl, hN⟩
  obtain ⟨a1, n1, hv⟩ := hN.2.1.slice
  obtain ⟨hNb, hNr, hNo⟩ := hN
  have hlenA : (A.map (·.n)).length = A.length := List.length_map _
  rw [hlenA] at hNr hv
  subst hv
  have hD1 : DiskAt W (fun k => F k ∧ k < w.heap.size) D room A w1 := HH.out.shrink.kept (hNb.mono HH.out.below.size) fun k hk hk2 => hNb.block k hk2
  have H0 := Lib.hid (show CR W (fun k => F k ∧ k < w.heap.size) D room K A (.slice a1 A.length n1) w1 0 w1 from ⟨by rw [crashI_zero]; exact hD1, hNr, Heap.Touch.refl _ _⟩)
  have HB := Lib.hid hNb; have HO := Lib.hid hNo; have HFEW := Lib.hid HH.out.right.few; have HSORT := Lib.hid HH.out.right.sorted
  have HEND := Lib.hid (fun w' (q : CR W (fun k => F k ∧ k < w.heap.size) D room K A (.slice a1 A.length n1) w1 A.length w') => (by
    obtain ⟨q1, q2, q3⟩ := q
    rw [crashI_all] at q1
    have hnF := HH.out.newF
    exact ⟨q1.mono (fun k hk => hk.1) hnF, (Heap.Touch.ofBelow (F := F) hNb).after (q3.mono fun k _ hk => hk.1)⟩ : DiskAt W F D room (crashD A K) w' ∧ Heap.Touch F w w'))
  have hlen20 : A.length ≤ 20 := HH.out.right.few
  clear hNb hNr hNo hlenA hD1 HH HL
  obtain ⟨L, hL⟩ : ∃ L, A.length = L := ⟨_, rfl⟩
  rw [hL] at hlen20 H0 HEND ⊢
  have HLL := Lib.hid hL
  clear hL
  go_wp2_with fail
  go_loopw [13] (fun i wr => ∃ k : Nat, k ≤ L ∧ i = .int .i64 k ∧ Hid (CR W (fun k => F k ∧ k < w.heap.size) D room K A (.slice a1 L n1) w1 k wr)) (fun i _ => L - (intOf i).toNat)
  case atStart => exact ⟨0, Nat.zero_le _, rfl, H0⟩
  case round =>
    obtain ⟨k, hk, rfl, HR⟩ := hrel
    clear H0
    by_cases hlt : k < L
    · have hltz : (k : Int) < L := by omega
      have hkA : k < A.length := by rw [HLL.out]; exact hlt
      obtain ⟨hDk, hRow, hT⟩ := HR.out
      rw [HLL.out] at hRow
      have hat := crashI_at (K := K) HSORT.out hkA
      have hnk : (numsV (A.map (·.n)))[k]? = some (.int .i64 A[k].n) := by simp [numsV, hkA]
      generalize A[k] = p at hat hnk
      obtain ⟨hg, hset⟩ := hat
      obtain ⟨hpn, hpm⟩ := getF_n hg
      obtain ⟨M, β, X, hm⟩ := hDk.mem
      obtain ⟨c0, c1, c2, cf⟩ := threeC hm.cells
      have hf := hm.files p hpm
      obtain ⟨T, hTt, hTs, hTl⟩ := text_of p.text
      rw [← hTt] at hf
      obtain ⟨f0, f1, ff⟩ := twoC hf
      have hnum := hDk.right.num p hpm
      have hlen := hDk.right.len hpm
      have hsure := hDk.right.sure p hpm
      obtain ⟨S, hS⟩ : ∃ S : Nat, S = p.sure + min K (p.text.length - p.sure) := ⟨_, rfl⟩
      have hcut : cutD (crashI K k A) p.n S = (crashI K (k + 1) A, 0) := by
        unfold cutD
        rw [hg]
        simp only
        rw [if_neg (by omega), ← hset]
        unfold keptF
        rw [← hS]
        rfl
      have HCUT := Lib.hid (fun wr' (q : DiskAt W (fun k => F k ∧ k < w.heap.size) D room (crashI K k A) wr') => (by have := cut_any q p.n S ⟨by omega, by omega⟩; rw [hcut] at this; exact this : Calls Tryz.prog 102 #[.pointer (some ⟨D, 0, none⟩), .int .i64 p.n, .int .i64 S] wr' fun e w' => e = .returned (.int .i64 0) ∧ DiskAt W (fun k => F k ∧ k < w.heap.size) D room (crashI K (k + 1) A) w' ∧ Heap.Touch (fun k => F k ∧ k < w.heap.size) wr' w'))
      have hown := Lib.hid hm.own
      have HAT := Lib.hid (hm.at_ p hpm)
      have HNUM := Lib.hid (show -9223372036854775808 ≤ p.n ∧ p.n ≤ 9223372036854775807 from ⟨by omega, by omega⟩)
      rw [← hTs] at hS hlen hsure
      have HS := Lib.hid hS; have HSU := Lib.hid hsure; have HLN := Lib.hid hlen
      have hrow2 := hRow.2
      rcases hrow2 with ⟨hv, h0⟩ | ⟨g, off, cap, cur, hv, hgb, h1, h2, h3, h4⟩
      · omega
      simp only [Value.slice.injEq, true_and] at hv
      obtain ⟨rfl, rfl⟩ := hv
      have hcell := (hRow.cell k (by omega)).1
      rw [hnk] at hcell
      have wa1 : IntKind.i64.wrap ((T.size : Int) - (p.sure : Int)) = (T.size : Int) - (p.sure : Int) := IntWalk.i64_in _ (by omega)
      have w2 : IntKind.i64.wrap ((p.sure : Int) + (K : Int)) = (p.sure : Int) + (K : Int) ∨ (T.size : Int) - (p.sure : Int) < K := by
        by_cases hc : (T.size : Int) - (p.sure : Int) < K
        · exact .inr hc
        · exact .inl (IntWalk.i64_in _ (by omega))
      have HW2 := Lib.hid w2
      have wa3 : IntKind.i64.wrap ((p.sure : Int) + ((T.size : Int) - (p.sure : Int))) = (T.size : Int) := by rw [IntWalk.i64_in _ (by omega)]; omega
      have HCR := Lib.hid (fun w' (q : DiskAt W (fun k => F k ∧ k < w.heap.size) D room (crashI K (k + 1) A) w') (q2 : Heap.Touch (fun k => F k ∧ k < w.heap.size) wr.drew w') => (by
        refine ⟨q, ?_, hT.drew.after q2⟩
        rw [HLL.out]
        refine hRow.kept ?_
        intro j hj hj2
        exact q2.block j hj2 (fun hh => by have := HO.out j hj; omega) : CR W (fun k => F k ∧ k < w.heap.size) D room K A (.slice (some ⟨g, off, none⟩) L n1) w1 (k + 1) w'))
      have HDD := Lib.hid (hDk.kept (w' := wr.drew) (Below.refl _ _).drew (fun _ _ _ => rfl))
      clear hDk hRow hT hg hset hpn hpm hm hf hTt hTs hTl hnum hlen hcut hS hgb h1 h2 h3 h4 hnk w2 HR hsure
      go_upto_region 5 with (first | (at_lookup; refine look_at _ rfl _ _ rfl M _ X rfl hown.out p.n rfl HNUM.out (β p.n) HAT.out ?_))
      go_cut [7] from 23 to 39 (fun s7 wx => s7 = .int .i64 S ∧ wr.drew = wx)
      case first =>
        have hS2 : (p.sure : Int) + min (K : Int) ((T.size : Int) - (p.sure : Int)) = S := by have := HS.out; have := HSU.out; omega
        have hS3 : wrap64 ((p.sure : Int) + min (K : Int) ((T.size : Int) - (p.sure : Int))) = S := by rw [hS2]; exact IntWalk.wrap64_in _ (by have := HS.out; have := HSU.out; have := HLN.out; omega)
        have HS3 := Lib.hid hS3
        clear HW2 HCUT HCR HDD hS2 hS3 wa3
        go_region
        go_wp2_with fail
        go_meet
        exact ⟨val_int HS3.out, rfl⟩
      case rest =>
      obtain ⟨rfl, rfl⟩ := hcut
      go_wp2_with fail
      refine (HCUT.out _ HDD.out).mono ?_
      rintro e w' ⟨rfl, q1, q2⟩
      have HF := Lib.hid (HCR.out w' q1 q2)
      clear q1 q2 HCUT HCR HDD
      go_wp2_with fail
      exact ⟨⟨k + 1, by omega, by go_num, HF⟩, by simp [intOf]; omega⟩
    · have hltz : ¬ (k : Int) < L := by omega
      obtain rfl : k = L := by omega
      go_wp2
      go_end0
      exact ⟨rfl, HEND.out _ HR.out⟩
end
end Go.Proofs.YtbgchhgdlceceaaGreatDoor.Dsk

namespace Go.Proofs.YtbgchhgdlceceaaGreatDoor.Drw
open Go.RowKit Heap Dsk

theorem crashI_form {K i : Nat} {A : List FileP} (hi : i < A.length) : (crashI K i A)[i]? = some A[i] ∧ (crashI K i A).set i (keptF K A[i]) = crashI K (i + 1) A ∧ (crashI K i A).length = A.length := by
  have hd : A.drop i = A[i] :: A.drop (i + 1) := List.drop_eq_getElem_cons hi
  have hl : ((A.take i).map (keptF K)).length = i := by rw [List.length_map, List.length_take]; omega
  refine ⟨?_, ?_, ?_⟩
  · unfold crashI
    rw [List.getElem?_append_right (by omega), hl, Nat.sub_self, hd]; rfl
  · unfold crashI
    rw [List.set_append_right _ _ (by omega), hl, Nat.sub_self, hd, List.set_cons_zero, List.take_add_one, List.getElem?_eq_getElem hi]
    show _ = ((A.take i) ++ [A[i]]).map (keptF K) ++ _
    rw [List.map_append]; simp
  · unfold crashI
    rw [List.length_append, hl, List.length_drop]; omega

theorem total_crash : ∀ (A : List FileP) (K : Nat), total (crashD A K) ≤ total A
  | [], _ => Nat.le_refl _
  | a :: r, K => by
    have ih := total_crash r K
    show (keptF K a).text.length + total (crashD r K) ≤ a.text.length + total r
    have : (keptF K a).text.length ≤ a.text.length := by
      show (a.text.take _).length ≤ _
      rw [List.length_take]; omega
    omega

theorem RightD.crash {room : Int} {A : List FileP} (h : RightD room A) (K : Nat) : RightD room (crashD A K) := by
  have hm : (crashD A K).map (·.n) = A.map (·.n) := by unfold crashD; rw [List.map_map]; rfl
  refine ⟨by rw [sorted_iff, hm, ← sorted_iff]; exact h.sorted, by unfold crashD; rw [List.length_map]; exact h.few, by have := total_crash A K; have := h.fits; omega, h.small, fun x hx => ?_, fun x hx => ?_⟩
  · obtain ⟨y, hy, rfl⟩ := List.mem_map.1 hx
    have := h.sure y hy
    show y.sure + min K (y.text.length - y.sure) ≤ (y.text.take (y.sure + min K (y.text.length - y.sure))).length
    rw [List.length_take]; omega
  · obtain ⟨y, hy, rfl⟩ := List.mem_map.1 hx
    exact h.num y hy

def CW (E : Nat) (room : Int) (v : Value) (n : Nat) (l : List FileP) (w wr : World) : Prop :=
  wr.heap[E]? = some (.cells #[.int .i64 room, v] 84 (0, 0)) ∧ Row wr 101 3 v n (plsV l) ∧ Heap.Touch (own v) w wr

/-- A paper's cell, written. -/
theorem CW.put {E : Nat} {room : Int} {n g off cap : Nat} {l : List FileP} {w wr : World} {k j : Nat} {p q : FileP} {u : Value} (h : CW E room (.slice (some ⟨g, off, none⟩) n cap) n l w wr) (hp : l[k]? = some p) (hk : k < n) (hj : j < 3) (hq : cells q = (cells p).set j u) (hne : E ≠ g) :
    CW E room (.slice (some ⟨g, off, none⟩) n cap) n (l.set k q) w (wr.setCell ⟨g, off + k * 3 + j, none⟩ u) := by
  have hset := Row.set h.2.1 (k * 3 + j) (by omega) u
  rw [plsV_set hp hj hq, ← Nat.add_assoc] at hset
  exact ⟨(heap_setCell_other _ _ _ _ hne).trans h.1, hset, h.2.2.setCell (.inl (by simp [own, Value.ownBlock])) _⟩

theorem byte_back (X : ByteArray) : (⟨X.data.toList.toArray⟩ : ByteArray) = X := by cases X; simp

/-- Where the look through a text stands. -/
def InC (sure K : Nat) (T T2 : ByteArray) (kk : Nat) : Prop := (T2 = T ∧ sure ≤ kk ∧ kk ≤ sure + K ∧ kk ≤ T.size) ∨ (sure + K < T.size ∧ T2 = T.extract 0 (sure + K) ∧ kk = sure + K + 1)

section
variable {W w : World} {G : Nat → Prop} {E : Nat} {room : Int} {A : List FileP}

set_option maxHeartbeats 2000000 in
set_option maxRecDepth 100000 in
theorem crash_drw (h : DrawAt W G E room A w) (keep : Int) (hkp : -9223372036854775808 ≤ keep ∧ keep ≤ 9223372036854775807) : Calls Tryz.prog 55 #[.pointer (some ⟨E, 0, none⟩), .int .i64 keep] w fun e w' => e = .returned (.tuple #[]) ∧ DrawAt W G E room (crashD A keep.toNat) w' ∧ Heap.Touch G w w' := by
  have HH := Lib.hid h
  obtain ⟨K, hK⟩ : ∃ K, keep.toNat = K := ⟨_, rfl⟩
  rw [hK]
  have HK := Lib.hid hK
  obtain ⟨v, h1, h2, h3⟩ := h.mem
  have hfew := h.right.few
  obtain ⟨L, hL⟩ : ∃ L, A.length = L := ⟨_, rfl⟩
  rw [hL] at hfew h2
  have HL := Lib.hid hL
  obtain ⟨a, c, hv⟩ := h2.slice
  subst hv
  have H0 := Lib.hid (show CW E room (.slice a L c) L (crashI K 0 A) w w from ⟨h1, by rw [crashI_zero]; exact h2, Heap.Touch.refl _ _⟩)
  have HEND := Lib.hid (fun wr (q : CW E room (.slice a L c) L (crashI K L A) w wr) => (by
    obtain ⟨q1, q2, q3⟩ := q
    rw [← hL, crashI_all] at q2
    have tf : Heap.Touch G w wr := q3.mono fun j _ hj => h3 j (by rw [hL] at *; exact hj)
    exact ⟨⟨RightD.crash h.right K, h.below.trans (tf.below h.below.size h.newG), h.newG, h.gE, _, q1, by rw [show (crashD A K).length = A.length from by unfold crashD; rw [List.length_map]]; rw [hL] at q2 ⊢; exact q2, h3⟩, tf⟩ : DrawAt W G E room (crashD A K) wr ∧ Heap.Touch G w wr))
  clear h h1 h2 h3 hL hK
  go_enter Tryz.func55, Tryz.ntmps55
  go_wp2_with fail
  go_loopw [4] (fun i wr => ∃ k : Nat, k ≤ L ∧ i = .int .i64 k ∧ Hid (CW E room (.slice a L c) L (crashI K k A) w wr)) (fun i _ => L - (intOf i).toNat)
  case atStart => exact ⟨0, Nat.zero_le _, rfl, H0⟩
  case round =>
    obtain ⟨k, hk, rfl, HR⟩ := hrel
    clear H0
    obtain ⟨c0, c1, cf⟩ := twoC HR.out.1
    by_cases hlt : k < L
    · have hltz : (k : Int) < L := by omega
      have hkA : k < A.length := by rw [HL.out]; exact hlt
      obtain ⟨g1, g2, g3⟩ := crashI_form (K := K) hkA
      have hpm : A[k] ∈ A := List.getElem_mem hkA
      generalize A[k] = p at g1 g2 hpm
      have hsure := HH.out.right.sure p hpm
      have hplen := HH.out.right.len hpm
      have hrow := HR.out.2.1.2
      rcases hrow with ⟨hv, h0⟩ | ⟨g, off, cap, cur, hv, _⟩
      · omega
      simp only [Value.slice.injEq, true_and] at hv
      obtain ⟨rfl, rfl⟩ := hv
      have hneE : E ≠ g := fun e => ne_row HR.out.1 HR.out.2.1 (by rw [e]; simp [own, Value.ownBlock])
      obtain ⟨d0, d1, d2⟩ := cells_pull HR.out.2.1 k p g1 hlt
      obtain ⟨T, hT, hTs, hTl⟩ := text_of p.text
      have G1 := Lib.hid g1; have G2 := Lib.hid g2; have HT := Lib.hid hT; have HTS := Lib.hid hTs; have HTL := Lib.hid hTl
      have hsureT : p.sure ≤ T.size := by rw [hTs]; exact hsure
      have hTlen : T.size ≤ 65536 := by rw [hTs]; exact hplen
      clear g1 g2 g3 hpm hsure hplen hT hTs hTl d0 d2
      -- the text is looked through from what is sure on
      have HI0 := Lib.hid (show CW E room (.slice (some ⟨g, off, none⟩) L c) L ((crashI K k A).set k ⟨p.n, p.text, p.sure⟩) w wr from by
        rw [show (crashI K k A).set k ⟨p.n, p.text, p.sure⟩ = crashI K k A from by
          have := G1.out
          apply List.ext_getElem?
          intro j
          by_cases hj : k = j
          · subst hj; rw [List.getElem?_set_self (List.getElem?_eq_some_iff.1 this).1]; exact this.symm
          · rw [List.getElem?_set_ne hj]]
        exact HR.out)
      have HI1 := Lib.hid (show CW E room (.slice (some ⟨g, off, none⟩) L c) L ((crashI K k A).set k ⟨p.n, T.data.toList, p.sure⟩) w wr ∧ InC p.sure K T T p.sure from ⟨by rw [HTL.out]; exact HI0.out, .inl ⟨rfl, Nat.le_refl _, Nat.le_add_right _ _, hsureT⟩⟩)
      clear HI0
      go_wp2_with fail
      go_loopw [6] (fun i wr => ∃ (kk : Nat) (T2 : ByteArray), i = .int .i64 kk ∧ Hid (CW E room (.slice (some ⟨g, off, none⟩) L c) L ((crashI K k A).set k ⟨p.n, T2.data.toList, p.sure⟩) w wr ∧ InC p.sure K T T2 kk)) (fun i _ => T.size + 1 - (intOf i).toNat)
      case atStart => exact ⟨p.sure, T, rfl, HI1⟩
      case round =>
        obtain ⟨kk, T2, rfl, HI⟩ := hrel
        clear HI1 HR c0 c1 cf d1
        have hlk : ((crashI K k A).set k ⟨p.n, T2.data.toList, p.sure⟩)[k]? = some ⟨p.n, T2.data.toList, p.sure⟩ := by
          rw [List.getElem?_set_self (List.getElem?_eq_some_iff.1 G1.out).1]
        obtain ⟨c0, c1, cf⟩ := twoC HI.out.1.1
        obtain ⟨d0, d1, d2⟩ := cells_pull HI.out.1.2.1 k _ hlk hlt
        obtain ⟨f0, f1, f2⟩ := frozen_pull HI.out.1.2.1 k hlt
        rw [byte_back T2] at d2
        have HLK := Lib.hid hlk
        clear hlk
        by_cases hin : kk < T2.size
        · have hinz : (kk : Int) < T2.size := by omega
          have hun : T2 = T ∧ p.sure ≤ kk ∧ kk ≤ p.sure + K ∧ kk ≤ T.size := by
            rcases HI.out.2 with h | ⟨h1, h2, h3⟩
            · exact h
            · rw [h2, ByteArray.size_extract] at hin
              omega
          obtain ⟨rfl, hu1, hu2, hu3⟩ := hun
          have wz : IntKind.i64.wrap ((kk : Int) - (p.sure : Int)) = (kk : Int) - (p.sure : Int) := IntWalk.i64_in _ (by omega)
          by_cases hge : keep ≤ (kk : Int) - p.sure
          · have hkk : kk = p.sure + K := by have := HK.out; omega
            have HF := Lib.hid (show CW E room (.slice (some ⟨g, off, none⟩) L c) L ((crashI K k A).set k ⟨p.n, (T2.extract 0 kk).data.toList, p.sure⟩) w (wr.setCell ⟨g, off + k * 3 + 2, none⟩ (.string (T2.extract 0 kk))) ∧ InC p.sure K T2 (T2.extract 0 kk) (kk + 1) from by
              refine ⟨?_, .inr ⟨by omega, by rw [hkk], by omega⟩⟩
              have := CW.put (j := 2) (u := .string (T2.extract 0 kk)) (q := ⟨p.n, (T2.extract 0 kk).data.toList, p.sure⟩) HI.out.1 HLK.out hlt (by omega) (by show [_, _, Value.string (⟨(T2.extract 0 kk).data.toList.toArray⟩ : ByteArray)] = _; rw [byte_back]; rfl) hneE
              rw [List.set_set] at this
              exact this)
            clear HI hkk
            go_wp2_with fail
            exact ⟨⟨kk + 1, _, by go_num, HF⟩, by simp [intOf]; omega⟩
          · have hgz : (kk : Int) - p.sure < keep := by omega
            have HF := Lib.hid (show CW E room (.slice (some ⟨g, off, none⟩) L c) L ((crashI K k A).set k ⟨p.n, T2.data.toList, p.sure⟩) w wr ∧ InC p.sure K T2 T2 (kk + 1) from ⟨HI.out.1, .inl ⟨rfl, by omega, by have := HK.out; omega, by omega⟩⟩)
            clear HI
            go_wp2_with fail
            exact ⟨⟨kk + 1, _, by go_num, HF⟩, by simp [intOf]; omega⟩
        · have hinz : ¬ (kk : Int) < T2.size := by omega
          have hfin : keptF K p = ⟨p.n, T2.data.toList, T2.size⟩ := by
            have hS : p.text.length = T.size := HTS.out.symm
            unfold keptF
            rcases HI.out.2 with ⟨h1, h2, h3, h4⟩ | ⟨h1, h2, h3⟩
            · subst h1
              rw [hS, show p.sure + min K (T2.size - p.sure) = T2.size by omega, ← hS, List.take_length, HTL.out]
            · have hs2 : T2.size = p.sure + K := by rw [h2, ByteArray.size_extract]; omega
              rw [hS, show p.sure + min K (T.size - p.sure) = p.sure + K by omega, hs2, h2, ← take_text HTL.out]
          have HF := Lib.hid (show CW E room (.slice (some ⟨g, off, none⟩) L c) L (crashI K (k + 1) A) w (wr.setCell ⟨g, off + k * 3 + 1, none⟩ (.int .i64 (T2.size : Nat))) from by
            have := CW.put (j := 1) (u := .int .i64 (T2.size : Nat)) (q := ⟨p.n, T2.data.toList, T2.size⟩) HI.out.1 HLK.out hlt (by omega) (by simp [cells]) hneE
            rw [List.set_set, ← hfin, G2.out] at this
            exact this)
          clear HI hfin HLK
          go_wp2_with fail
          exact ⟨⟨k + 1, by omega, by go_num, HF⟩, by simp [intOf]; omega⟩
    · have hltz : ¬ (k : Int) < L := by omega
      obtain rfl : k = L := by omega
      go_wp2
      go_end0
      exact ⟨rfl, HEND.out _ HR.out⟩
end
end Go.Proofs.YtbgchhgdlceceaaGreatDoor.Drw

namespace Go.Proofs.YtbgchhgdlceceaaGreatDoor.Drw
open Go.RowKit Heap Dsk

/-- 'copy' into a row of elements of so many cells each. -/
theorem run_copyN {P : Program} (w : World) (dT sT ty elem : TypeId) (size g o dLen dCap : Nat) (a : Addr) (sLen sCap : Nat) (cur : Array Value) (t : TypeId) (cs : List Value) (m : Nat)
    (hu : P.underlying dT = some (.slice elem)) (hs : (P.info? elem).map (·.size) = some size)
    (hg : w.heap[g]? = some (.cells cur t (0, 0))) (hm : Nat.min sLen dLen = m) (hn : cs.length = m * size)
    (hsrc : ∀ j v, cs[j]? = some v → w.cell? (a.add j) = some v) (hfit : o + cs.length ≤ cur.size) (h1 : ∀ v ∈ cs, v.oneCell' = true) :
    (Builtin.copy_ #[dT, sT] ty #[.slice (some ⟨g, o, none⟩) dLen dCap, .slice (some a) sLen sCap]).run P w =
      .ok (goInt m) (w.setRow g (cur.toList.take o ++ cs ++ cur.toList.drop (o + cs.length)).toArray) := by
  have hl := run_loadCells_list (P := P) w a cs hsrc
  have hst := run_storeCells_at P g o t cs 0 cur w hg (by simpa using hfit) h1
  cases hq : P.info? elem with
  | none => simp [hq] at hs
  | some i =>
    have hi : i.size = size := by simpa [hq] using hs
    rw [hn] at hl hst
    simp [Builtin.copy_, run_underlying hu, Builtin.lenOf, Builtin.firstCells, sizeOf, typeInfo, hq, hi, hm, hl, hst, hn]

/-! ### lists -/
theorem shift_list {P X1 X2 R N : List Value} {A : List Value} (hA : A.length = P.length + X1.length + N.length) (hAt : A.take (P.length + X1.length) = P ++ X1) :
    (A ++ X2 ++ R).take (P.length + X1.length) ++ N ++ (A ++ X2 ++ R).drop (P.length + X1.length + N.length) = P ++ (X1 ++ N ++ X2) ++ R := by
  rw [List.append_assoc A, List.take_append, hAt, List.drop_append, ← hA, List.drop_length, Nat.sub_self, List.drop_zero]
  rw [show P.length + X1.length - A.length = 0 by omega, List.take_zero]
  simp

theorem insertV (l : List FileP) (q : FileP) (i : Nat) : plsV (l.take i ++ q :: l.drop i) = (plsV l).take (i * 3) ++ cells q ++ (plsV l).drop (i * 3) := by
  rw [plsV_append, plsV_cons, plsV_take, plsV_drop, List.append_assoc]

section
variable {w : World} {n i vb : Nat} {l : List FileP} {q : FileP}

set_option maxHeartbeats 2000000 in
set_option maxRecDepth 100000 in
/-- At the end. -/
theorem insert_end (v : Value) (hl : l.length = n) (hn : n ≤ 20) (hrow : Row w 101 3 v n (plsV l)) (hvb : w.heap[vb]? = some (.cells #[.int .i64 q.n, .int .i64 (q.sure : Nat), .string ⟨q.text.toArray⟩] 101 (0, 0))) :
    Calls Tryz.prog 170 #[v, .int .i64 n, .slice (some ⟨vb, 0, none⟩) 1 1] w fun e w' => ∃ v', e = .returned v' ∧ Row w' 101 3 v' (n + 1) (plsV (l ++ [q])) ∧ Heap.Touch (own v) w w' ∧ ∀ k, own v' k → own v k ∨ w.heap.size ≤ k := by
  have HR := Lib.hid hrow
  have hnews : ∀ j u, (cells q)[j]? = some u → w.cell? ((⟨vb, 0, none⟩ : Addr).add j) = some u := fun j u hj => by
    rw [Addr.add_lit, cell_of_row w vb (0 + j) _ _ _ hvb, Nat.zero_add]
    rcases j with _ | _ | _ | j
    · simpa [cells] using hj
    · simpa [cells] using hj
    · simpa [cells] using hj
    · simp [cells] at hj
  have hone : ∀ u ∈ cells q, u.oneCell' = true := fun u hu => by
    simp only [cells, List.mem_cons, List.not_mem_nil, or_false] at hu
    rcases hu with rfl | rfl | rfl <;> rfl
  have HE := Lib.hid (show plsV (l ++ [q]) = plsV l ++ cells q from by rw [plsV_append]; simp [plsV])
  rw [HE.out]
  have HN := Lib.hid hnews; have HO := Lib.hid hone
  clear hnews hone
  obtain ⟨i0, hi, hz0, hz1, hz2⟩ := info_parts info_paper
  rcases hrow.2 with ⟨rfl, rfl⟩ | ⟨g, off, cap, cur, rfl, hg, h1, h2, _⟩
  · clear hrow hvb hl
    go_enter Tryz.func170, Tryz.ntmps170
    go_wp2_with (at_builtin; refine Heap.wpList_append_row _ rfl (.tmp 23) (.tmp 24) 82 rfl 101 i0 _ 3 32 Tryz.underlying82 hi hz0 hz1 hz2 rfl (by decide) _ 0 _ rfl HR.out ⟨vb, 0, none⟩ 1 1 (cells q) rfl rfl HN.out HO.out (by unfold maxLen; omega) (by omega) ?_)
    intro v2 w3 r3 t3 o3
    have HF := Lib.hid (⟨r3, t3, o3⟩ : Row w3 101 3 v2 (0 + 1) (plsV l ++ cells q) ∧ Heap.Touch (own (.slice none 0 0)) w w3 ∧ ∀ k, own v2 k → own (.slice none 0 0) k ∨ w.heap.size ≤ k)
    clear r3 t3 o3
    go_wp2
    go_ret
    exact ⟨_, rfl, HF.out⟩
  · clear hrow hvb hl hg
    have hnc : (n : Int) ≤ (n : Int) := Int.le_refl _
    go_enter Tryz.func170, Tryz.ntmps170
    go_wp2_with (at_builtin; refine Heap.wpList_append_row _ rfl (.tmp 23) (.tmp 24) 82 rfl 101 i0 _ 3 32 Tryz.underlying82 hi hz0 hz1 hz2 rfl (by decide) _ n _ rfl HR.out ⟨vb, 0, none⟩ 1 1 (cells q) rfl rfl HN.out HO.out (by unfold maxLen; omega) (by omega) ?_)
    all_goals
      intro v2 w3 r3 t3 o3
      have HF := Lib.hid (⟨r3, t3, o3⟩ : Row w3 101 3 v2 (n + 1) (plsV l ++ cells q) ∧ Heap.Touch (own (.slice (some ⟨g, off, none⟩) n cap)) w w3 ∧ ∀ k, own v2 k → own (.slice (some ⟨g, off, none⟩) n cap) k ∨ w.heap.size ≤ k)
      clear r3 t3 o3
      go_wp2
      go_ret
      exact ⟨_, rfl, HF.out⟩
end
end Go.Proofs.YtbgchhgdlceceaaGreatDoor.Drw

namespace Go.Proofs.YtbgchhgdlceceaaGreatDoor.Drw
open Go.RowKit Heap Dsk

theorem setRow_other (w : World) (g k : Nat) (cs : Array Value) (h : k ≠ g) : (w.setRow g cs).heap[k]? = w.heap[k]? := by
  simp only [World.setRow, Array.getElem?_modify]
  rw [if_neg (fun e => h e.symm)]

theorem touch_setRow {F : Nat → Prop} {a w : World} (h : Heap.Touch F a w) {g : Nat} (hg : F g) (cs : Array Value) : Heap.Touch F a (w.setRow g cs) :=
  ⟨h.os, h.tape, h.output, by simp [World.setRow]; exact h.size, fun k hk hn => by rw [setRow_other _ _ _ _ (fun e => hn (by rw [e]; exact hg))]; exact h.block k hk hn⟩

/-- The array behind an insertion in place. -/
theorem room_list {cur N X1 X2 : List Value} {off i n cap : Nat} (hi : i < n) (hroom : n + 1 ≤ cap) (hN : N.length = 3) (h3 : off + cap * 3 ≤ cur.length) (hx : (cur.drop off).take (n * 3) = X1 ++ X2) (h1 : X1.length = i * 3) (h2 : X2.length = (n - i) * 3) :
    let c1 := cur.take (off + (i + 1) * 3) ++ X2 ++ cur.drop (off + (i + 1) * 3 + (n - i) * 3)
    let c2 := c1.take (off + i * 3) ++ N ++ c1.drop (off + i * 3 + 3)
    (c2.drop off).take ((n + 1) * 3) = X1 ++ N ++ X2 ∧ c2.length = cur.length ∧ c1.length = cur.length := by
  have hP : (cur.take off).length = off := by rw [List.length_take]; omega
  have hX1 : (cur.take (off + (i + 1) * 3)).take (off + i * 3) = cur.take off ++ X1 := by
    rw [List.take_take, show min (off + i * 3) (off + (i + 1) * 3) = off + i * 3 by omega]
    have e1 : X1 = (X1 ++ X2).take (i * 3) := by rw [← h1]; simp
    have this : X1 = (cur.drop off).take (i * 3) := by
      rw [e1, ← hx, List.take_take, show min (i * 3) (n * 3) = i * 3 by omega]
    rw [this, List.take_add]
  have hA : (cur.take (off + (i + 1) * 3)).length = (cur.take off).length + X1.length + N.length := by rw [hP, h1, hN, List.length_take]; omega
  have hs := shift_list (X2 := X2) (R := cur.drop (off + (i + 1) * 3 + (n - i) * 3)) (N := N) hA (by rw [hP, h1]; exact hX1)
  rw [hP, h1, hN] at hs
  intro c1 c2
  have e2 : c2 = cur.take off ++ (X1 ++ N ++ X2) ++ cur.drop (off + (i + 1) * 3 + (n - i) * 3) := hs
  have hl : (X1 ++ N ++ X2).length = (n + 1) * 3 := by simp only [List.length_append, h1, h2, hN]; omega
  refine ⟨?_, ?_, ?_⟩
  · rw [e2, List.append_assoc, List.drop_append, hP, Nat.sub_self, List.drop_zero, List.drop_of_length_le (by omega), List.nil_append, List.take_append, hl, Nat.sub_self, List.take_zero, List.append_nil, List.take_of_length_le (by omega)]
  · rw [e2]
    simp only [List.length_append, hP, List.length_drop] at hl ⊢
    omega
  · show (cur.take (off + (i + 1) * 3) ++ X2 ++ cur.drop (off + (i + 1) * 3 + (n - i) * 3)).length = _
    simp only [List.length_append, List.length_take, List.length_drop, h2]
    omega

section
variable {w : World} {n i vb : Nat} {l : List FileP} {q : FileP}

set_option maxHeartbeats 4000000 in
set_option maxRecDepth 100000 in
theorem insert_room (g off cap : Nat) (hl : l.length = n) (hn : n ≤ 20) (hi : i < n) (hroom : n + 1 ≤ cap) (hrow : Row w 101 3 (.slice (some ⟨g, off, none⟩) n cap) n (plsV l)) (hvb : w.heap[vb]? = some (.cells #[.int .i64 q.n, .int .i64 (q.sure : Nat), .string ⟨q.text.toArray⟩] 101 (0, 0))) (hne : vb ≠ g) :
    Calls Tryz.prog 170 #[.slice (some ⟨g, off, none⟩) n cap, .int .i64 i, .slice (some ⟨vb, 0, none⟩) 1 1] w fun e w' => ∃ v', e = .returned v' ∧ Row w' 101 3 v' (n + 1) (plsV (l.take i ++ q :: l.drop i)) ∧ Heap.Touch (own (.slice (some ⟨g, off, none⟩) n cap)) w w' ∧ ∀ k, own v' k → own (.slice (some ⟨g, off, none⟩) n cap) k ∨ w.heap.size ≤ k := by
  have hrow2 := hrow.2
  rcases hrow2 with ⟨h2, _⟩ | ⟨g', off', cap', cur, hv, hg, h1, h2, h3, h4⟩
  · cases h2
  simp only [Value.slice.injEq, Option.some.injEq, Addr.mk.injEq] at hv
  obtain ⟨⟨rfl, rfl, _⟩, _, rfl⟩ := hv
  have hX : plsV l = (plsV l).take (i * 3) ++ (plsV l).drop (i * 3) := (List.take_append_drop _ _).symm
  have hX1 : ((plsV l).take (i * 3)).length = i * 3 := by rw [List.length_take, plsV_len]; omega
  have hX2 : ((plsV l).drop (i * 3)).length = (n - i) * 3 := by rw [List.length_drop, plsV_len, Nat.sub_mul]; omega
  have hones := plsV_one l
  have hone : ∀ u ∈ cells q, u.oneCell' = true := fun u hu => by
    simp only [cells, List.mem_cons, List.not_mem_nil, or_false] at hu
    rcases hu with rfl | rfl | rfl <;> rfl
  have hlist := room_list (N := cells q) hi hroom rfl (by rw [Array.length_toList]; exact h3) (h4.trans hX) hX1 hX2
  obtain ⟨C1, hC1⟩ : ∃ C1 : Array Value, C1 = (cur.toList.take (off + (i + 1) * 3) ++ (plsV l).drop (i * 3) ++ cur.toList.drop (off + (i + 1) * 3 + (n - i) * 3)).toArray := ⟨_, rfl⟩
  obtain ⟨C2, hC2⟩ : ∃ C2 : Array Value, C2 = (C1.toList.take (off + i * 3) ++ cells q ++ C1.toList.drop (off + i * 3 + 3)).toArray := ⟨_, rfl⟩
  have hc1s : C1.size = cur.size := by rw [hC1, List.size_toArray, hlist.2.2, Array.length_toList]
  have hc2 : (C2.toList.drop off).take ((n + 1) * 3) = (plsV l).take (i * 3) ++ cells q ++ (plsV l).drop (i * 3) ∧ C2.size = cur.size := by
    rw [hC2, hC1]
    exact ⟨hlist.1, by rw [List.size_toArray, hlist.2.1, Array.length_toList]⟩
  have hov : ∀ lb cb, (callFunc 211 #[.slice (some ⟨vb, 0, none⟩) 1 1, .slice (some ⟨g, off + (i + 1) * 3, none⟩) lb cb]).run Tryz.prog w = .ok (.value (.bool false)) w := fun lb cb => by
    have hsz : cur.size ≠ 0 := by omega
    rw [run_callFunc_extern Tryz.func211 (by kernel_rfl) (by kernel_rfl) (by kernel_rfl) (e := Extern.SlicesOverlaps.overlaps #[82, 82] #[4]) (by kernel_rfl),
      Lib.run_overlaps_apart w 82 4 101 Tryz.underlying82 3 Tryz.sizeOf101 ⟨vb, 0, none⟩ ⟨g, off + (i + 1) * 3, none⟩ 1 1 lb cb hne 101 101 3 cur.size (by simp [World.shape?, hvb]) (by simp [World.shape?, hg]) hsz (frozen_of_row w vb 0 _ _ hvb) (frozen_of_row w vb 3 _ _ hvb)]
    rfl
  have hcp1 : ∀ ty dc sc, (Builtin.copy_ #[82, 82] ty #[.slice (some ⟨g, off + (i + 1) * 3, none⟩) (n - i) dc, .slice (some ⟨g, off + i * 3, none⟩) (n + 1 - i) sc]).run Tryz.prog w.drew = .ok (goInt ((n - i : Nat) : Int)) (w.drew.setRow g C1) := fun ty dc sc => by
    have h := run_copyN w.drew 82 82 ty 101 3 g (off + (i + 1) * 3) (n - i) dc ⟨g, off + i * 3, none⟩ (n + 1 - i) sc cur 101 ((plsV l).drop (i * 3)) (n - i) Tryz.underlying82 (by kernel_rfl) hg (by simp only [Nat.min_def]; split <;> omega) hX2
      (fun j v hj => by
        rw [List.getElem?_drop] at hj
        rw [Addr.add_lit]
        have hjl := (List.getElem?_eq_some_iff.1 hj).1
        rw [plsV_len] at hjl
        have := (hrow.cell (i * 3 + j) (by omega)).1
        rw [← Nat.add_assoc] at this
        exact this.trans hj) (by rw [hX2]; omega) (fun v hv => hones v (List.mem_of_mem_drop hv))
    rw [hX2] at h
    rw [hC1]
    exact h
  have hg1 : (w.drew.setRow g C1).heap[g]? = some (.cells C1 101 (0, 0)) := setRow_heap w.drew g cur C1 _ (0, 0) hg
  have hcp2 : ∀ ty dc, (Builtin.copy_ #[82, 82] ty #[.slice (some ⟨g, off + i * 3, none⟩) (n + 1 - i) dc, .slice (some ⟨vb, 0, none⟩) 1 1]).run Tryz.prog (w.drew.setRow g C1) = .ok (goInt 1) ((w.drew.setRow g C1).setRow g C2) := fun ty dc => by
    have h := run_copyN (w.drew.setRow g C1) 82 82 ty 101 3 g (off + i * 3) (n + 1 - i) dc ⟨vb, 0, none⟩ 1 1 C1 101 (cells q) 1 Tryz.underlying82 (by kernel_rfl) hg1 (by simp only [Nat.min_def]; split <;> omega) rfl
      (fun j v hj => by
        have hvb1 : (w.drew.setRow g C1).heap[vb]? = some (.cells #[.int .i64 q.n, .int .i64 (q.sure : Nat), .string ⟨q.text.toArray⟩] 101 (0, 0)) := (setRow_other _ _ _ _ hne).trans hvb
        rw [Addr.add_lit, cell_of_row _ vb (0 + j) _ _ _ hvb1, Nat.zero_add]
        rcases j with _ | _ | _ | j
        · simpa [cells] using hj
        · simpa [cells] using hj
        · simpa [cells] using hj
        · simp [cells] at hj) (by rw [hc1s]; simp [cells]; omega) hone
    rw [hC2]
    exact h
  have hend : Row ((w.drew.setRow g C1).setRow g C2) 101 3 (.slice (some ⟨g, off, none⟩) (n + 1) cap) (n + 1) (plsV (l.take i ++ q :: l.drop i)) ∧ Heap.Touch (own (.slice (some ⟨g, off, none⟩) n cap)) w ((w.drew.setRow g C1).setRow g C2) := by
    refine ⟨⟨by rw [insertV]; simp only [List.length_append, hX1, hX2]; simp [cells]; omega, .inr ⟨g, off, cap, C2, rfl, setRow_heap _ g C1 C2 _ (0, 0) hg1, hroom, h2, by rw [hc2.2]; exact h3, by rw [insertV]; exact hc2.1⟩⟩, touch_setRow (touch_setRow (Heap.Touch.refl _ w).drew (by simp [own, Value.ownBlock]) _) (by simp [own, Value.ownBlock]) _⟩
  have HEND := Lib.hid hend
  have hz2 : ¬ ((i : Int) = (n : Int)) := by omega
  have hw1 : IntKind.i64.wrap ((i : Int) + 1) = (i : Int) + 1 := IntWalk.i64_in _ (by omega)
  have hw2 : IntKind.i64.wrap ((n : Int) + 1) = (n : Int) + 1 := IntWalk.i64_in _ (by omega)
  have hb1 : (0 : Int) ≤ (i : Int) + 1 := by omega
  have hin : i ≤ n := by omega
  have htn : ((i : Int) + 1).toNat = i + 1 := by omega
  have htn2 : ((n : Int) + 1).toNat = n + 1 := by omega
  have hb2 : ¬ (cap = i + 1) := by omega
  have hb3 : (i : Int) ≤ (n : Int) + 1 := by omega
  have hb3' : (i : Int) + 1 ≤ (n : Int) + 1 := by omega
  have hb4 : ¬ (cap = i) := by omega
  have hb5 : (n : Int) + 1 ≤ cap := by omega
  clear hX hX1 hX2 hones hone hlist hC1 hC2 hc1s hc2 hg1 hend h1 h3 h4 hg hrow hvb hl
  go_enter Tryz.func170, Tryz.ntmps170
  go_wp2_with (simp only [hov])
  go_region_law ((refine step_copy_runI rfl _ _ 82 82 rfl _ _ (by simp [Act.eval, Act.put]) (by simp [Act.eval, Act.put]) (hcp1 _ _ _) ?_))
  go_wp2_with (at_builtin; refine wpList_copy_runI _ rfl _ _ 82 82 rfl _ _ rfl rfl (hcp2 _ _) ?_)
  go_ret
  exact ⟨_, rfl, HEND.out.1, HEND.out.2, fun k hk => .inl hk⟩
end
end Go.Proofs.YtbgchhgdlceceaaGreatDoor.Drw
