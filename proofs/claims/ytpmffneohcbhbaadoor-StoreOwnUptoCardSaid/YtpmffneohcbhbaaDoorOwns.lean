/- The law StoreOwn, walked: it returns true. -/
import Derived.Test.YtpmffneohcbhbaaDoorSums
import Derived.Test.YtpmffneohcbhbaaDoorStoSpoil
namespace Go.Proofs.YtpmffneohcbhbaaDoor.Sto
open Go.RowKit Heap
open Subj (Tok ML pieces takes StrsAt isB matchR)
open Rec (Rc recErr far)
open Idx (Ents ptrV findL FindPost entV)
open Shf (SortedE find_x put_x get_x x_new XAt NextX putL getL Tells KeptBy index_any first_cases)

theorem containsF_y (g : Nat) (lb : Array Value) (p : (Tok × Int) → Bool) (C : World → Prop) (eg : ∀ args w, (callFunc g args).run Tryd.prog w = .ok (.enter g args) w)
    (v : Value) (l : Ents) (w : World) (hrow : Row w 40 2 v l.length (entV l)) (hl : l.length ≤ 1000) (hC : C w) (hk : KeptBy v C) (hp : Tells l g lb p C) (h : ∀ x ∈ l, p x = false) :
    Calls Tryd.prog 27 #[v, .func (.func g) #[] lb] w fun e w' => e = .returned (.bool false) ∧ Below w.heap.size w w' := by
  have HI := Lib.hid (index_any g lb p C eg v l w hrow hl hC hk hp (-1) (.inl ⟨rfl, h⟩))
  clear hrow hC hk hp h eg
  go_enter Tryd.func27, Tryd.ntmps27
  go_wp2_with fail
  refine HI.out.mono ?_
  rintro e w' ⟨rfl, hb⟩
  go_wp2
  go_ret
  exact ⟨rfl, hb⟩

theorem subj_full {s : Tok} (h : Subj.err false s = 0) : s ≠ [] := by
  rintro rfl
  exact absurd h (by decide)

theorem names_full {L : List Rc} {last : Int} {I : Ents} (h : Right L last I) (f : Tok) : ∀ p ∈ findL I f, p.1 ≠ [] := fun p hp => by
  have h1 := (h.count p.1 p.2).1 (List.mem_filter.1 hp).1
  obtain ⟨r, hr, e⟩ := cnt_ne.1 h1.2
  rw [← e]
  have := h.good r hr
  exact subj_full (good_parts this.1 this.2).1

set_option maxRecDepth 100000 in
theorem tells_empty (l : Ents) (h : ∀ p ∈ l, p.1 ≠ []) : Tells l 42 #[] (fun _ => false) (fun _ => True) := by
  intro W x hx _
  show Calls Tryd.prog _ #[.agg #[.string ⟨x.1.toArray⟩, .int .i64 x.2]] W fun e w' => e = .returned (.bool false) ∧ Below W.heap.size W w'
  have hne := h x hx
  have e1 : (⟨x.1.toArray⟩ : ByteArray).toList = x.1 := Subj.bytes_toList _
  obtain ⟨p, hp⟩ : ∃ p : ByteArray, (⟨x.1.toArray⟩ : ByteArray) = p := ⟨_, rfl⟩
  rw [hp] at e1 ⊢
  have e3 : (⟨#[]⟩ : ByteArray).toList = [] := Subj.bytes_toList []
  have hb2 : (p.toList == (⟨#[]⟩ : ByteArray).toList) = false := by rw [e1, e3]; simpa using hne
  obtain ⟨w1, hw1⟩ : ∃ w1, w1 = W.alloc (.cells #[.string p, .int .i64 x.2] 40) := ⟨_, rfl⟩
  have hb1 : Below W.heap.size W w1 := by rw [hw1]; exact (Below.refl _ _).alloc (Nat.le_refl _) _
  have hea : w1.heap[W.heap.size]? = some (.cells #[.string p, .int .i64 x.2] 40 (0, 0)) := by rw [hw1]; exact heap_alloc_new W _
  obtain ⟨bx, hbx⟩ : ∃ bx, W.heap.size = bx := ⟨_, rfl⟩
  have HBX := Lib.hid hbx
  rw [hbx] at hea
  have q0 : w1.cell? ⟨bx, 0, none⟩ = some (.string p) := by rw [cell_of_row w1 bx 0 _ _ _ hea]; rfl
  have HB1 := Lib.hid hb1; have HNE := Lib.hid (show p.toList ≠ [] by rw [e1]; exact hne)
  clear hx h hp e1 hne hea hb1 hbx e3
  go_enter Tryd.func42, Tryd.ntmps42
  go_upto_region 1 with fail
  rw [← hw1, HBX.out]
  clear hw1
  go_wp2
  go_ret
  exact ⟨by have := HNE.out; simp [hb2, this], HB1.out⟩

/-- What is told of subjects, whatever the error. -/
theorem find_any {er : Nat} {FL : Ents} {w w' : World} {e : Ending} (h : FindPost er FL w e w') : ∃ v n l, e = .returned (.tuple #[v, .int .i64 er]) ∧ Below w.heap.size w w' ∧ Row w' 40 2 v n (entV l) ∧ l.length = n ∧ ((∀ p ∈ l, p ∈ FL) ∧ l.length ≤ FL.length) ∧ ∀ k, own v k → w.heap.size ≤ k := by
  obtain ⟨hb, h⟩ := h
  rcases h with ⟨h1, rfl⟩ | ⟨rfl, v, rfl, h2, h3⟩
  · exact ⟨_, 0, [], rfl, hb, Row.nil _ _ _, rfl, ⟨fun p hp => (by cases hp), Nat.zero_le _⟩, fun k hk => by simp [own, Value.ownBlock] at hk⟩
  · exact ⟨v, _, FL, rfl, hb, h2, rfl, ⟨fun p hp => hp, Nat.le_refl _⟩, h3⟩

theorem put_a : putL (Subj.err false [97]) [] [97] 1 = ([([97], 1)], 0) := by decide
theorem get_a : getL (Subj.err false [97]) [([97], 1)] [97] = (1, 0) := by decide
theorem find_a : findL [([97], 1)] [62] = [([97], 1)] := find_all _
theorem err_gt : Subj.err true [62] = 0 := by decide

section
variable {w : World}

set_option maxHeartbeats 8000000 in
set_option maxRecDepth 100000 in
theorem storeOwn_walk (hm : ML w) {v : Value} {l : List Rc} (hl : RecsAt w v l) (hf : ∀ r ∈ l, Fits r) (f : ByteArray) (hfz : f.size ≤ 1048576) :
    Calls Tryd.prog 8 #[v, .string f] w fun e w' => e = .returned (.bool true) ∧ Below w.heap.size w w' := by
  obtain ⟨n, hnL⟩ : ∃ n, l.length = n := ⟨_, rfl⟩
  have HN := Lib.hid hnL
  obtain ⟨ao, cap, rfl, ha⟩ := hl
  have HL := Lib.hid (show RecsAt w (.slice ao l.length cap) l from ⟨ao, cap, rfl, ha⟩); have HF := Lib.hid hf; have HML := Lib.hid hm
  rw [hnL] at HL ⊢
  have HNW := Lib.hid (Idx.new_any w)
  have hX := x_new (W := w) (w := w) (Below.refl _ _)
  obtain ⟨x, hx⟩ : ∃ x, w.heap.size = x := ⟨_, rfl⟩
  obtain ⟨w1, hw1⟩ : ∃ w1, w1 = w.alloc (.cells #[.string ⟨#[]⟩, .slice none 0 0, .bool false, .int .i64 0, .int .i64 0] 84) := ⟨_, rfl⟩
  rw [← hw1, hx] at hX HNW
  have HX1 := Lib.hid hX
  clear ha hf hm hnL hX hw1 hx
  go_enter Tryd.func8, Tryd.ntmps8
  go_wp2_with fail
  refine HNW.out.mono ?_
  rintro e w' ⟨rfl, rfl⟩
  clear HNW
  have hP := put_x HX1.out (by omega) HML.out ⟨#[97]⟩ (by decide) 1
  rw [show (⟨#[97]⟩ : ByteArray).data.toList = [97] from rfl, put_a] at hP
  have HP := Lib.hid hP
  clear hP HX1
  go_wp2_with fail
  refine HP.out.mono ?_
  rintro e w2 ⟨rfl, ⟨M2, hX2, _⟩, _⟩
  have HX2 := Lib.hid hX2
  have hFD := find_x hX2 (by omega) HML.out ⟨#[62]⟩ (by decide)
  rw [show (⟨#[62]⟩ : ByteArray).data.toList = [62] from rfl, find_a, err_gt] at hFD
  have HFD := Lib.hid hFD
  clear hX2 hFD HP
  go_wp2_with fail
  refine HFD.out.mono ?_
  rintro e w3 ⟨hb3, hcase⟩
  rcases hcase with ⟨hne, _⟩ | ⟨_, vf, rfl, hr3, ho3⟩
  · exact absurd rfl hne
  obtain ⟨fa, fc, rfl⟩ := hr3.slice
  have HSP := Lib.hid (spoil_ent hr3 ⟨#[]⟩ 0)
  have HX3 := Lib.hid (HX2.out.next hb3)
  have HO3 := Lib.hid (show ∀ k, M2 k → ¬ own (.slice fa [(([97] : Tok), (1 : Int))].length fc) k from fun k hk ho => by
    have h1 := HX2.out.bM hk
    have h2 := ho3 k ho
    omega)
  have HO3' := Lib.hid (show ∀ k, own (.slice fa [(([97] : Tok), (1 : Int))].length fc) k → w.heap.size ≤ k from fun k ho => Nat.le_trans HX2.out.below.size (ho3 k ho))
  clear hr3 ho3 hb3 HFD HX2
  simp only [List.length_cons, List.length_nil, Nat.zero_add] at HSP HO3 HO3' ⊢
  go_wp2_with fail
  refine HSP.out.mono ?_
  rintro e w4 ⟨rfl, ht4⟩
  have HX4 := Lib.hid (HX3.out.kept (HX3.out.below.trans (ht4.below HX3.out.below.size HO3'.out)) ht4.size (ht4.same HO3.out))
  clear ht4 HSP HX3 HO3 HO3'
  have hG := get_x HX4.out (by omega) HML.out ⟨#[97]⟩ (by decide)
  rw [show (⟨#[97]⟩ : ByteArray).data.toList = [97] from rfl, get_a] at hG
  have HG := Lib.hid hG
  clear hG
  go_wp2_with fail
  refine HG.out.mono ?_
  rintro e w5 ⟨rfl, hb5⟩
  have HB5 := Lib.hid (HX4.out.below.trans (hb5.mono HX4.out.below.size))
  clear hb5 HG HX4
  by_cases h250 : 250 < n
  · have h250z : (250 : Int) < n := by omega
    have h250d : decide ((250 : Int) < n) = true := by simp; omega
    go_wp2_with fail
    go_ret
    exact ⟨rfl, HB5.out⟩
  have h250z : ¬ (250 : Int) < n := by omega
  have h250d : decide ((250 : Int) < n) = false := by simp; omega
  go_wp2_with fail
  have hfil := filled_any (W := w) HB5.out HML.out (by rw [← HN.out] at HL; exact HL.out.below HB5.out (Nat.le_refl _)) (by rw [HN.out]; omega) HF.out
  rw [HN.out] at hfil
  refine hfil.mono ?_
  clear hfil
  rintro e w6 ⟨D, F, rfl, hS6, hF6, hb6⟩
  rw [HN.out] at hS6
  generalize (runS l).1 = L at hS6
  generalize (runS l).2 = last at hS6
  have hfew : L.length ≤ 200 := by
    obtain ⟨I, hRI⟩ := hS6.right
    exact hRI.few
  have HFEW := Lib.hid hfew
  have HF6 := Lib.hid (show ∀ k, F k → k < w6.heap.size from hS6.bF)
  have HS6 := Lib.hid hS6
  have HAL := Lib.hid (all_any hS6)
  clear hS6 hF6 hb6 hfew HB5
  go_wp2_with fail
  refine HAL.out.mono ?_
  rintro e w7 ⟨va, rfl, hr7, hb7, ho7⟩
  have HR7 := Lib.hid hr7; have HB7 := Lib.hid hb7; have HO7 := Lib.hid ho7
  have HCL := Lib.hid (clone_rec hr7 (by have := HFEW.out; omega))
  have HS7 := Lib.hid (HS6.out.next hb7)
  clear hr7 hb7 ho7 HAL
  go_wp2_with fail
  refine HCL.out.mono ?_
  rintro e w8 ⟨vb, rfl, hr8, hb8, ho8⟩
  have HR8 := Lib.hid hr8; have HB8 := Lib.hid hb8; have HO8 := Lib.hid ho8
  have HS8 := Lib.hid (HS7.out.next hb8)
  clear hr8 hb8 ho8 HCL
  obtain ⟨I, hRI, hsj⟩ := subjects_any HS8.out (by omega) HML.out f hfz
  have HSJ := Lib.hid hsj
  clear hRI hsj
  go_wp2_with fail
  refine HSJ.out.mono ?_
  rintro e w9 hpost
  obtain ⟨vn, nn, ln, rfl, hb9, hr9, hln, _, ho9⟩ := find_any hpost
  have HR9 := Lib.hid hr9; have HB9 := Lib.hid hb9; have HO9 := Lib.hid ho9
  have HS9 := Lib.hid (HS8.out.next hb9)
  have HSP := Lib.hid (spoil_rec (HR7.out.kept (w' := w9) fun k _ hk => (hb9.block k (Nat.lt_of_lt_of_le hk HB8.out.size)).trans (HB8.out.block k hk)))
  clear hpost hb9 hr9 hln ho9 HSJ
  go_wp2_with fail
  refine HSP.out.mono ?_
  rintro e w10 ⟨rfl, ht10⟩
  have z6 := HS6.out.below.size
  have z7 := HB7.out.size
  have z8 := HB8.out.size
  have z9 := HB9.out.size
  have z10 := ht10.size
  have HS10 := Lib.hid (HS9.out.kept (HS9.out.below.trans (ht10.below HS9.out.below.size fun k hk => by have := HO7.out k hk; omega)) ht10.size (ht10.same fun k hk ho => by have := HO7.out k ho; have := HF6.out k hk; omega))
  have HRB10 := Lib.hid ((HR8.out.kept (w' := w9) fun k _ hk => HB9.out.block k hk).kept (w' := w10) fun k hk hlt => ht10.block k hlt fun ho => by have := HO8.out k hk; have := HR7.out.lt k ho; omega)
  have HRN10 := Lib.hid (HR9.out.kept (w' := w10) fun k hk hlt => ht10.block k hlt fun ho => by have := HO9.out k hk; have := HR7.out.lt k ho; omega)
  have HSE := Lib.hid (spoil_ent HRN10.out ⟨#[]⟩ 9)
  have HZ := Lib.hid (show w.heap.size ≤ w6.heap.size ∧ w6.heap.size ≤ w7.heap.size ∧ w7.heap.size ≤ w8.heap.size ∧ w8.heap.size ≤ w9.heap.size ∧ w9.heap.size ≤ w10.heap.size from ⟨z6, z7, z8, z9, z10⟩)
  clear ht10 z6 z7 z8 z9 z10 HSP HS9
  go_wp2_with fail
  refine HSE.out.mono ?_
  rintro e w11 ⟨rfl, ht11⟩
  have HS11 := Lib.hid (HS10.out.kept (HS10.out.below.trans (ht11.below HS10.out.below.size fun k hk => by have := HO9.out k hk; have := HZ.out; omega)) ht11.size (ht11.same fun k hk ho => by have := HO9.out k ho; have := HF6.out k hk; have := HZ.out; omega))
  have HRB11 := Lib.hid (HRB10.out.kept (w' := w11) fun k hk hlt => ht11.block k hlt fun ho => by have := HR8.out.lt k hk; have := HO9.out k ho; omega)
  clear ht11 HSE HS10 HRB10 HRN10
  obtain ⟨I2, hRI2, hsj2⟩ := subjects_any HS11.out (by omega) HML.out f hfz
  have HSJ := Lib.hid hsj2
  have HNF := Lib.hid (names_full hRI2 f.data.toList)
  have HI2 := Lib.hid (show (findL I2 f.data.toList).length ≤ 200 from by
    refine Nat.le_trans (List.length_filter_le _ _) ?_
    rw [counts_dist hRI2.sorted hRI2.count]
    refine Nat.le_trans ?_ hRI2.few
    exact nodup_le_subjs L)
  generalize findL I2 f.data.toList = FL at *
  clear hRI2 hsj2
  go_wp2_with fail
  refine HSJ.out.mono ?_
  rintro e w12 hpost
  obtain ⟨vm, nm, lm, rfl, hb12, hr12, hlm, hin, _⟩ := find_any hpost
  subst hlm
  have HS12 := Lib.hid (HS11.out.next hb12)
  have HRB12 := Lib.hid (HRB11.out.kept (w' := w12) fun k _ hk => hb12.block k hk)
  have HRM := Lib.hid hr12
  have HLM := Lib.hid (show lm.length ≤ 1000 ∧ ∀ p ∈ lm, p.1 ≠ [] from ⟨by have := hin.2; have := HI2.out; omega, fun p hp => HNF.out p (hin.1 p hp)⟩)
  have HAL := Lib.hid (all_any HS12.out)
  clear hpost hb12 hr12 hin HSJ
  go_wp2_with fail
  refine HAL.out.mono ?_
  rintro e w13 ⟨vc, rfl, hr13, hb13, _⟩
  have HEQ := Lib.hid (equal_recs (row_recs hr13) (row_recs (HRB12.out.kept (w' := w13) fun k _ hk => hb13.block k hk)) (by have := HFEW.out; omega))
  have HB13 := Lib.hid (HS12.out.below.trans (hb13.mono HS12.out.below.size))
  have HRM13 := Lib.hid (HRM.out.kept (w' := w13) fun k _ hk => hb13.block k hk)
  clear hr13 hb13 HAL
  go_wp2_with fail
  refine HEQ.out.mono ?_
  rintro e w14 ⟨rfl, q, rfl⟩
  have HCF := Lib.hid (containsF_y 42 #[] (fun _ => false) (fun _ => True) (fun _ _ => rfl) vm lm (w13.drewN q) (HRM13.out.kept fun _ _ _ => rfl) HLM.out.1 trivial (fun _ _ _ _ => trivial) (tells_empty lm HLM.out.2) fun _ _ => rfl)
  have HB14 := Lib.hid (below_drewN HB13.out q)
  clear HEQ
  go_wp2_with fail
  refine HCF.out.mono ?_
  rintro e w15 ⟨rfl, hb15⟩
  have HB15 := Lib.hid (HB14.out.trans (hb15.mono HB14.out.size))
  clear hb15 HCF
  go_wp2_with fail
  go_ret
  exact ⟨rfl, HB15.out⟩
end
end Go.Proofs.YtpmffneohcbhbaaDoor.Sto
