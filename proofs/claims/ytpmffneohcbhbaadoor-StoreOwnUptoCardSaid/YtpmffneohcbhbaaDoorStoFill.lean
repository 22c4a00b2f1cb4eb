/- A store that is filled. -/
import Derived.Test.YtpmffneohcbhbaaDoorStoRead
namespace Go.Proofs.YtpmffneohcbhbaaDoor.Sto
open Go.RowKit Heap
open Subj (Tok ML pieces takes StrsAt)
open Rec (Rc recErr far)
open Idx (Ents ptrV new_any)
open Shf (XAt NextX SortedE putL x_new)

/-- What a list of records leaves. -/
def runS (l : List Rc) : List Rc × Int := l.foldl (fun s r => after s.1 s.2 r) ([], 0)

theorem runS_step {l : List Rc} {k : Nat} {r : Rc} (h : l[k]? = some r) : runS (l.take (k + 1)) = after (runS (l.take k)).1 (runS (l.take k)).2 r := by
  unfold runS
  rw [List.take_add_one, h, List.foldl_append]
  rfl

theorem res_rec {fn : Func} (hf : fn.results = #[.cell 2 56]) (tmps : Array Value) (w : World) (R : Nat) {a0 a1 a2 a3 a4 a5 : Value}
    (h2 : tmps.getD 2 undef = .pointer (some ⟨R, 0, none⟩)) (hR : w.heap[R]? = some (.cells #[a0, a1, a2, a3, a4, a5] 56 (0, 0))) :
    (results fn tmps).run Tryd.prog w = .ok (.agg #[a0, a1, a2, a3, a4, a5]) w := by
  obtain ⟨z0, z1, z2, z3, z4, z5⟩ := sixC hR
  simp only [Array.getD_eq_getD_getElem?] at h2
  simp [results, hf, go_sem, h2, z0, z1, z2, z3, z4, z5]

theorem set6 {w : World} {R : Nat} {b0 b1 b2 b3 b4 b5 : Value} {t : TypeId} (a0 a1 a2 a3 a4 a5 : Value) (hR : w.heap[R]? = some (.cells #[b0, b1, b2, b3, b4, b5] t (0, 0))) :
    ((((((w.setCell ⟨R, 0, none⟩ a0).setCell ⟨R, 1, none⟩ a1).setCell ⟨R, 2, none⟩ a2).setCell ⟨R, 3, none⟩ a3).setCell ⟨R, 4, none⟩ a4).setCell ⟨R, 5, none⟩ a5).heap[R]? = some (.cells #[a0, a1, a2, a3, a4, a5] t (0, 0)) := by
  have h1 := heap_setCell_same w R 0 _ _ a0 hR
  have h2 := heap_setCell_same _ R 1 _ _ a1 h1
  have h3 := heap_setCell_same _ R 2 _ _ a2 h2
  have h4 := heap_setCell_same _ R 3 _ _ a3 h3
  have h5 := heap_setCell_same _ R 4 _ _ a4 h4
  exact heap_setCell_same _ R 5 _ _ a5 h5

def noteR (q : Int) : Rc := ⟨1, q, 0, [97, 46, 98], [], [120]⟩

section
variable {W w : World}

set_option maxRecDepth 100000 in
theorem note_any (q : Int) : Calls Tryd.prog 30 #[.int .i64 q] w fun e w' => e = .returned (recV (noteR q)) ∧ Below w.heap.size w w' := by
  show Calls Tryd.prog _ _ w fun e w' => e = .returned (.agg #[.int .i64 1, .int .i64 q, .int .i64 0, .string ⟨#[97, 46, 98]⟩, .string ⟨#[]⟩, .string ⟨#[120]⟩]) ∧ Below w.heap.size w w'
  go_enter Tryd.func30, Tryd.ntmps30
  go_wp2_with fail
  refine bodyPost_ret (v := .agg #[.int .i64 1, .int .i64 q, .int .i64 0, .string ⟨#[97, 46, 98]⟩, .string ⟨#[]⟩, .string ⟨#[120]⟩]) (res_rec Tryd.results30 _ _ w.heap.size rfl (heap_alloc_new w _)) rfl ?_
  exact ⟨rfl, (Below.refl _ _).alloc (Nat.le_refl _) _⟩

theorem new_store (hb : Below W.heap.size W w) : Calls Tryd.prog 43 #[] w fun e w' => e = .returned (.pointer (some ⟨w.heap.size + 1, 0, none⟩)) ∧ StoreAt W (fun k => w.heap.size ≤ k ∧ k < w.heap.size + 2) (w.heap.size + 1) 0 [] 0 w' ∧ Below w.heap.size w w' := by
  have HN := Lib.hid (new_any w)
  obtain ⟨w1, hw1⟩ : ∃ w1, w1 = w.alloc (.cells #[.string ⟨#[]⟩, .slice none 0 0, .bool false, .int .i64 0, .int .i64 0] 84) := ⟨_, rfl⟩
  have hX := x_new hb
  rw [← hw1] at hX HN
  have hsz : w1.heap.size = w.heap.size + 1 := by rw [hw1]; simp
  have hb1 : Below w.heap.size w w1 := by rw [hw1]; exact (Below.refl _ _).alloc (Nat.le_refl _) _
  have hP := Lib.hid (show StoreAt W (fun k => w.heap.size ≤ k ∧ k < w.heap.size + 2) (w.heap.size + 1) 0 [] 0 (w1.alloc (.cells #[.slice none 0 0, ptrV w.heap.size, .int .i64 0, .int .i64 0] 104)) ∧ Below w.heap.size w (w1.alloc (.cells #[.slice none 0 0, ptrV w.heap.size, .int .i64 0, .int .i64 0] 104)) from by
    have hb2 : Below w1.heap.size w1 (w1.alloc (.cells #[.slice none 0 0, ptrV w.heap.size, .int .i64 0, .int .i64 0] 104)) := (Below.refl _ _).alloc (Nat.le_refl _) _
    have hW := hb.size
    refine ⟨⟨⟨_, w.heap.size, 0, [], .slice none 0 0, ⟨hX.next hb2, by rw [← hsz]; exact heap_alloc_new w1 _, Row.nil _ _ _, by omega, by omega, fun k hk => by simp [own, Value.ownBlock] at hk⟩, ⟨List.Pairwise.nil, (fun _ h => by cases h), (fun _ h => by cases h), by simp, ⟨by omega, by unfold far; omega⟩, List.Pairwise.nil, fun s n => ⟨fun h => (by cases h), fun h => absurd rfl h.2⟩⟩, Nat.le_refl _, fun k hk => ?_⟩, ⟨by omega, by omega⟩, fun k hk => by omega, fun k hk => ?_⟩, hb1.trans (hb2.mono hb1.size)⟩
    · rcases hk with rfl | hk
      · exact ⟨Nat.le_refl _, by omega⟩
      · simp [own, Value.ownBlock] at hk
    · have : (w1.alloc (.cells #[.slice none 0 0, ptrV w.heap.size, .int .i64 0, .int .i64 0] 104)).heap.size = w1.heap.size + 1 := by simp
      omega)
  have HSZ := Lib.hid hsz
  clear hX hw1 hsz hb1
  go_enter Tryd.func43, Tryd.ntmps43
  go_wp2_with fail
  refine HN.out.mono ?_
  rintro e w' ⟨rfl, rfl⟩
  have hs := HSZ.out
  go_wp2
  go_ret
  exact ⟨by simp [hs], hP.out⟩

/-- A store of one's own, filled. -/
def FilledAt (W w : World) (l : List Rc) (e : Ending) (w' : World) : Prop :=
  ∃ D F, e = .returned (.pointer (some ⟨D, 0, none⟩)) ∧ StoreAt W F D (16 * l.length) (runS l).1 (runS l).2 w' ∧ (∀ k, F k → w.heap.size ≤ k) ∧ Below w.heap.size w w'

set_option maxHeartbeats 2000000 in
set_option maxRecDepth 100000 in
theorem filled_any (hb : Below W.heap.size W w) (hm : ML W) {v : Value} {l : List Rc} (hl : RecsAt w v l) (hn : l.length ≤ 1000) (hf : ∀ r ∈ l, Fits r) :
    Calls Tryd.prog 29 #[v] w (FilledAt W w l) := by
  obtain ⟨n, hnL⟩ : ∃ n, l.length = n := ⟨_, rfl⟩
  have HN := Lib.hid hnL
  obtain ⟨ao, cap, rfl, ha⟩ := hl
  rw [hnL] at hn ⊢
  have HNEW := Lib.hid (new_store hb)
  obtain ⟨D, hD⟩ : ∃ D, w.heap.size + 1 = D := ⟨_, rfl⟩
  rw [hD] at HNEW
  have HL := Lib.hid (show RecsAt w (.slice ao l.length cap) l from ⟨ao, cap, rfl, ha⟩); have HF := Lib.hid hf; have HML := Lib.hid hm
  clear ha hf hm hD hnL
  go_enter Tryd.func29, Tryd.ntmps29
  go_wp2_with fail
  refine HNEW.out.mono ?_
  rintro e w1 ⟨rfl, hs1, hb1⟩
  have h0 := Lib.hid (show ∃ F, StoreAt W F D (16 * 0) (runS (l.take 0)).1 (runS (l.take 0)).2 w1 ∧ (∀ k, F k → w.heap.size ≤ k) ∧ Below w.heap.size w w1 from ⟨_, hs1, fun k hk => hk.1, hb1⟩)
  clear hs1 hb1 HNEW
  go_wp2_with fail
  go_loopw [9] (fun i wr => ∃ k : Nat, k ≤ n ∧ i = .int .i64 k ∧ Hid (∃ F, StoreAt W F D (16 * k) (runS (l.take k)).1 (runS (l.take k)).2 wr ∧ (∀ k, F k → w.heap.size ≤ k) ∧ Below w.heap.size w wr)) (fun i _ => n - (intOf i).toNat)
  case atStart => exact ⟨0, Nat.zero_le _, rfl, h0⟩
  case round =>
    obtain ⟨k, hk, rfl, HR⟩ := hrel
    clear h0
    obtain ⟨F, hS, hFn, hbw⟩ := HR.out
    by_cases hlt : k < n
    · have hltz : (k : Int) < n := by omega
      obtain ⟨p, hp⟩ : ∃ p, l[k]? = some p := ⟨_, List.getElem?_eq_getElem (by rw [HN.out]; exact hlt)⟩
      have hlr := HL.out.below hbw (Nat.le_refl _)
      obtain ⟨ao', cap', hv, ha⟩ := hlr
      simp only [Value.slice.injEq, true_and] at hv
      obtain ⟨rfl, rfl⟩ := hv
      obtain ⟨g, off, rfl, hcs⟩ := ha (fun e => by rw [e] at hp; simp at hp)
      obtain ⟨m0, m1, m2, m3, m4, m5⟩ := hcs k p hp
      have hfp := HF.out p (List.mem_of_getElem? hp)
      have hrv : recV p = .agg #[.int .i64 p.kind, .int .i64 p.seq, .int .i64 p.time, .string ⟨p.subj.toArray⟩, .string ⟨p.head.toArray⟩, .string ⟨p.data.toArray⟩] := rfl
      obtain ⟨s, h, d, hpp⟩ := parts p
      rw [hpp.s1, hpp.h1, hpp.d1] at hrv
      rw [hpp.s1] at m3
      rw [hpp.h1] at m4
      rw [hpp.d1] at m5
      obtain ⟨wa, hwa⟩ : ∃ wa, wa = wr.alloc (.cells #[.int .i64 p.kind, .int .i64 p.seq, .int .i64 p.time, .string s, .string h, .string d] 56) := ⟨_, rfl⟩
      have hba : Below wr.heap.size wr wa := by rw [hwa]; exact (Below.refl _ _).alloc (Nat.le_refl _) _
      have hea : wa.heap[wr.heap.size]? = some (.cells #[.int .i64 p.kind, .int .i64 p.seq, .int .i64 p.time, .string s, .string h, .string d] 56 (0, 0)) := by rw [hwa]; exact heap_alloc_new wr _
      obtain ⟨bx, hbx⟩ : ∃ bx, wr.heap.size = bx := ⟨_, rfl⟩
      rw [hbx] at hea
      have hAP := apply_any (hS.next hba) (by omega) HML.out p hfp
      rw [hrv] at hAP
      have HSA := Lib.hid (hS.next hba)
      obtain ⟨q0, q1, q2, q3, q4, q5⟩ := sixC hea
      have hbxl := heap_lt hea
      have HAP := Lib.hid hAP; have HBX := Lib.hid hbx; have HBW := Lib.hid (hbw.trans (hba.mono hbw.size)); have HFN := Lib.hid hFn; have HP := Lib.hid hp
      clear hp ha hcs hfp hrv hpp hea hbx hAP hS hFn hbw hba HR
      go_upto_region 5 with fail
      rw [← hwa, HBX.out]
      clear hwa m0 m1 m2 m3 m4 m5
      go_wp2_with fail
      refine HAP.out.mono ?_
      rintro e w4 ⟨rfl, ⟨F', hS4, hF4⟩, ht4⟩
      have HNX := Lib.hid (show ∃ F, StoreAt W F D (16 * (k + 1)) (runS (l.take (k + 1))).1 (runS (l.take (k + 1))).2 w4 ∧ (∀ k, F k → w.heap.size ≤ k) ∧ Below w.heap.size w w4 from by
        refine ⟨F', ?_, fun j hj => ?_, HBW.out.trans (ht4.below HBW.out.size HFN.out)⟩
        · rw [runS_step HP.out]
          exact hS4.mono (by omega)
        · rcases hF4 j hj with e | e
          · exact HFN.out j e
          · exact Nat.le_trans HBW.out.size e)
      clear hS4 hF4 ht4 HAP q0 q1 q2 q3 q4 q5
      go_wp2_with fail
      exact ⟨⟨k + 1, by omega, by go_num, HNX⟩, by simp [intOf]; omega⟩
    · have hltz : ¬ (k : Int) < n := by omega
      obtain rfl : k = n := by omega
      have HFI := Lib.hid (show FilledAt W w l (.returned (.pointer (some ⟨D, 0, none⟩))) wr from by
        rw [List.take_of_length_le (by rw [HN.out]; exact Nat.le_refl _)] at hS
        exact ⟨D, F, rfl, by rw [HN.out]; exact hS, hFn, hbw⟩)
      clear hS hFn hbw HR
      go_wp2_with fail
      go_ret
      exact HFI.out
end
end Go.Proofs.YtpmffneohcbhbaaDoor.Sto
