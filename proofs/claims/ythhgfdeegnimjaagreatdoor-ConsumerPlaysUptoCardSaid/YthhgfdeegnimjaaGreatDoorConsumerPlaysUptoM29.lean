/- Parts of the proof, joined: How many messages are still to come; a delivery that is told: (*Consumer).left, (*Consumer).told, walked.; What is due is delivered again: (*Consumer).again, walked. -/
import Derived.Test.YthhgfdeegnimjaaGreatDoorConsumerPlaysUptoM9
import Derived.Test.YthhgfdeegnimjaaGreatDoorConsumerPlaysUptoM24
import Derived.Test.YthhgfdeegnimjaaGreatDoorConsumerPlaysUptoM28
import Derived.Deep.RegionHeld3
namespace Go.Proofs.YthhgfdeegnimjaaGreatDoor.Con
open Go.RowKit Heap
open Subj (Tok TakerP ML errT errT_facts)
open Sto (StoreAt Right seekR tk recV next_any parts sixC Parts below6 set6)
open Rec (Rc far)

/-- A delivery as a value. -/
def delV (d : Dl) : Value := .agg #[.int .i64 d.seq, .string ⟨d.subj.toArray⟩, .string ⟨d.data.toArray⟩, .int .i64 d.count, .int .i64 d.nth, .int .i64 d.left]

theorem str_of (l : List UInt8) : (⟨l.toArray⟩ : ByteArray).data.toList = l := by simp

abbrev tc : TypeId := 134
abbrev tp : TypeId := 151

section
variable {W w : World} {F : Nat → Prop} {D B K k : Nat} {L : List Rc} {last : Int} {t : TakerP} {vb v : Value} {c : Cn}

theorem filt_len (ht : errT t = 0) : t.filt.length ≤ 135 := Rec.err_len (errT_facts ht).2.1

/-- The store's Next, asked with a consumer's filter. -/
theorem next_want (hA : StoreAt W F D B L last w) (hm : ML W) (ht : errT t = 0) (q : Int) (hq : 0 ≤ q ∧ q ≤ far + 1) :
    Calls Tryz.prog 66 #[.pointer (some ⟨D, 0, none⟩), .string ⟨t.filt.toArray⟩, .int .i64 q] w fun e w' => e = .returned (.tuple #[recV (seekR 0 (L.find? (want t q))).1, .int .i64 ((seekR 0 (L.find? (want t q))).2 : Nat)]) ∧ Below w.heap.size w w' := by
  have hf := filt_len ht
  have hfar : far = 1099511627776 := rfl
  refine (next_any hA hm ⟨t.filt.toArray⟩ (by show t.filt.toArray.size ≤ _; simp; omega) q (by omega)).mono ?_
  rintro e w' ⟨i, h1, h2, rfl, hb⟩
  refine ⟨?_, hb⟩
  rw [str_of, (errT_facts ht).2.1, seek_want h1 h2]

set_option maxHeartbeats 2000000 in
set_option maxRecDepth 100000 in
theorem left_c (h : CAt tc tp W K t vb v c w) (hk : 1 ≤ c.place ∧ c.place ≤ far + 1) (hA : StoreAt W F D B L last w) (hm : ML W) (ht : errT t = 0) :
    Calls Tryz.prog 163 #[.pointer (some ⟨K, 0, none⟩), .pointer (some ⟨D, 0, none⟩)] w fun e w' => e = .returned (.int .i64 (leftC t L c.place : Nat)) ∧ Below w.heap.size w w' := by
  obtain ⟨I, hR⟩ := hA.right
  obtain ⟨G, hG⟩ : ∃ G, L.filter (want t c.place) = G := ⟨_, rfl⟩
  have hgl : leftC t L c.place = G.length := by rw [left_len, hG]
  rw [hgl]
  have hg200 : G.length ≤ 200 := by rw [← hG]; exact Nat.le_trans (List.length_filter_le _ _) hR.few
  have hgs : ∀ r ∈ G, 1 ≤ r.seq ∧ r.seq ≤ far := fun r hr => by
    rw [← hG] at hr
    exact seq_pos hR r (List.mem_filter.1 hr).1
  obtain ⟨fb, hfb⟩ : ∃ fb : ByteArray, (⟨t.filt.toArray⟩ : ByteArray) = fb := ⟨_, rfl⟩
  have hnw := fun w' (hb : Below w.heap.size w w') q hq => next_want (hA.next hb) hm ht q hq
  have hcl := fun w' (hb : Below w.heap.size w w') => (h.next hb).cells
  have hlt := heap_lt h.cell
  rw [hfb] at hnw hcl
  obtain ⟨_, c1, _, _, _, _, _, _, _, _, c10, _, _, _⟩ := hcl w (Below.refl _ _)
  have hfar : far = 1099511627776 := rfl
  have hpr := fun j => placeQ_range (p0 := c.place) (G := G) (by omega) hgs j
  have hfw := fun j hj => find_want hR.rise hG (j := j) hj
  have HNW := Lib.hid hnw; have HCL := Lib.hid hcl; have HPR := Lib.hid hpr; have HFW := Lib.hid hfw; have HGS := Lib.hid hgs
  obtain ⟨p0, hp0⟩ : ∃ p0, c.place = p0 := ⟨_, rfl⟩
  rw [hp0] at c10 HCL HPR HFW
  clear h hA hR hG hgl hgs hfb hnw hcl hpr hfw hp0 hk hm ht
  go_enter Tryz.func163, Tryz.ntmps163
  go_wp2_with fail
  go_loopw [5, 6] (fun n at_ wr => ∃ j : Nat, j ≤ G.length ∧ n = .int .i64 j ∧ at_ = .int .i64 (placeQ p0 G j) ∧ Hid (Below w.heap.size w wr)) (fun n _ _ => G.length - (intOf n).toNat)
  case atStart => exact ⟨0, Nat.zero_le _, rfl, rfl, Lib.hid (Below.refl _ _)⟩
  case round =>
    obtain ⟨j, hj, rfl, rfl, HB⟩ := hrel
    clear c1 c10
    obtain ⟨_, c1, _, _, _, _, _, _, _, _, c10, _, _, _⟩ := HCL.out wr HB.out
    have hltr : K < wr.heap.size := Nat.lt_of_lt_of_le hlt HB.out.size
    have hnx := HNW.out wr HB.out (placeQ p0 G j) (HPR.out j)
    rw [HFW.out j hj] at hnx
    have hnr := HPR.out j
    obtain ⟨q, hq⟩ : ∃ q, placeQ p0 G j = q := ⟨_, rfl⟩
    rw [hq] at hnx hnr
    rw [hq]
    have HQ := Lib.hid hq
    clear hq
    by_cases hjl : j < G.length
    · obtain ⟨x, hx⟩ : ∃ x, G[j]? = some x := ⟨_, List.getElem?_eq_getElem hjl⟩
      have hst := placeQ_step (p0 := p0) hx
      have hxs := HGS.out x (List.mem_of_getElem? hx)
      obtain ⟨s, hd, d, hp⟩ := parts x
      rw [hx, show seekR 0 (some x) = (x, 0) from rfl] at hnx
      simp only [recV] at hnx
      rw [hp.s1, hp.h1, hp.d1] at hnx
      have HNX := Lib.hid hnx; have HST := Lib.hid hst
      have hw1 : IntKind.i64.wrap (x.seq + 1) = x.seq + 1 := IntWalk.i64_in _ (by omega)
      have hjb : (j : Int) ≤ 200 := by omega
      clear hnx hx hp hst
      go_wp2_with fail
      refine HNX.out.mono ?_
      rintro e w1 ⟨rfl, h1⟩
      have HB1 := Lib.hid (HB.out.trans (h1.mono HB.out.size))
      obtain ⟨w2, hw2⟩ : ∃ w2, w2 = w1.alloc (.cells #[.int .i64 x.kind, .int .i64 x.seq, .int .i64 x.time, .string s, .string hd, .string d] 33) := ⟨_, rfl⟩
      have hb2 : Below w1.heap.size w1 w2 := by rw [hw2]; exact (Below.refl _ _).alloc (Nat.le_refl _) _
      have he2 : w2.heap[w1.heap.size]? = some (.cells #[.int .i64 x.kind, .int .i64 x.seq, .int .i64 x.time, .string s, .string hd, .string d] 33 (0, 0)) := by rw [hw2]; exact heap_alloc_new w1 _
      obtain ⟨bx, hbx⟩ : ∃ bx, w1.heap.size = bx := ⟨_, rfl⟩
      rw [hbx] at he2
      have HB2 := Lib.hid (HB1.out.trans (hb2.mono HB1.out.size)); have HBX := Lib.hid hbx
      obtain ⟨q0, q1, q2, q3, q4, q5⟩ := sixC he2
      have hbl := heap_lt he2
      clear h1 hb2 he2 hbx HB HB1 HNX c1 c10
      go_upto_region 5 with fail
      rw [← hw2, HBX.out]
      clear hw2
      go_wp2_with fail
      exact ⟨⟨j + 1, by omega, by go_num, by rw [HST.out], HB2⟩, by simp [intOf]; omega⟩
    · obtain rfl : j = G.length := by omega
      rw [List.getElem?_eq_none_iff.2 (Nat.le_refl _), show seekR 0 (none : Option Rc) = (Rc.zero, 4) from rfl] at hnx
      simp only [recV] at hnx
      have HNX := Lib.hid hnx
      clear hnx
      go_wp2_with fail
      refine HNX.out.mono ?_
      rintro e w1 ⟨rfl, h1⟩
      have HB1 := Lib.hid ((HB.out.trans (h1.mono HB.out.size)).alloc (Nat.le_trans HB.out.size h1.size) (.cells #[.int .i64 0, .int .i64 0, .int .i64 0, .string ⟨#[]⟩, .string ⟨#[]⟩, .string ⟨#[]⟩] 33))
      clear h1 HNX HB
      go_wp2_with fail
      go_ret
      exact ⟨rfl, HB1.out⟩

/-- A consumer and a store side by side. -/
structure PairAt (W : World) (F : Nat → Prop) (D B : Nat) (L : List Rc) (last : Int) (K : Nat) (t : TakerP) (vb v : Value) (c : Cn) (w : World) : Prop where
  st : StoreAt W F D B L last w
  con : CAt tc tp W K t vb v c w
  fK : ¬ F K
  fv : ∀ k, own v k → ¬ F k
  fb : ∀ k, own vb k → ¬ F k

variable {w1 : World} {L' : List Rc} {last' : Int} {B' : Nat} {c' : Cn}

theorem PairAt.next (h : PairAt W F D B L last K t vb v c w) (hb : Below w.heap.size w w1) : PairAt W F D B L last K t vb v c w1 := ⟨h.st.next hb, h.con.next hb, h.fK, h.fv, h.fb⟩

theorem PairAt.of (h : PairAt W F D B L last K t vb v c w) {v' : Value} (hc : CAt tc tp W K t vb v' c' w1) (ht : Heap.Touch (fun k => k = K ∨ own v k) w w1) (ho : ∀ k, own v' k → own v k ∨ w.heap.size ≤ k) : PairAt W F D B L last K t vb v' c' w1 := by
  refine ⟨h.st.kept hc.below ht.size fun k hk hlt => ht.block k hlt fun e => ?_, hc, h.fK, fun k hk hF => ?_, h.fb⟩
  · rcases e with rfl | e
    · exact h.fK hk
    · exact h.fv k e hk
  · rcases ho k hk with e | e
    · exact h.fv k e hF
    · have := h.st.bF k hF; omega

theorem PairAt.turn (h : PairAt W F D B L last K t vb v c w) (hn : NextC tc tp W K t vb v w c' w1) : ∃ v', PairAt W F D B L last K t vb v' c' w1 ∧ ∀ k, own v' k → own v k ∨ w.heap.size ≤ k := by
  obtain ⟨v', hC, ht, ho⟩ := hn
  exact ⟨v', h.of hC ht ho, ho⟩

theorem PairAt.store (h : PairAt W F D B L last K t vb v c w) (hn : Sto.NextSt W F D B' w L' last' w1) : ∃ F', PairAt W F' D B' L' last' K t vb v c w1 ∧ ∀ k, F' k → F k ∨ w.heap.size ≤ k := by
  obtain ⟨⟨F', hS, hF⟩, ht⟩ := hn
  refine ⟨F', ⟨hS, h.con.touch ht h.st.newF h.fK h.fv h.fb, fun hk => ?_, fun k hk hk2 => ?_, fun k hk hk2 => ?_⟩, hF⟩
  · rcases hF K hk with e | e
    · exact h.fK e
    · have := heap_lt h.con.cell; omega
  · rcases hF k hk2 with e | e
    · exact h.fv k hk e
    · have := h.con.row.lt k hk; omega
  · rcases hF k hk2 with e | e
    · exact h.fb k hk e
    · have := (h.con.fb k hk).1; omega

theorem PairAt.below (h : PairAt W F D B L last K t vb v c w) : Below W.heap.size W w := h.con.below

/-- Another count, another place. -/
theorem CAt.set (h : CAt tc tp W K t vb v c w) {j : Nat} {u : Value} (hc : (conC t vb v c).setIfInBounds j u = conC t vb v c') (hl : c'.l = c.l) : CAt tc tp W K t vb v c' (w.setCell ⟨K, j, none⟩ u) ∧ Heap.Touch (fun k => k = K ∨ own v k) w (w.setCell ⟨K, j, none⟩ u) := by
  have ht : Heap.Touch (fun k => k = K ∨ own v k) w (w.setCell ⟨K, j, none⟩ u) := (touch_K w K j u).mono fun k _ e => .inl e
  refine ⟨h.put ht ?_ ?_ (fun k hk => .inl hk) h.ne, ht⟩
  · rw [← hc]; exact heap_setCell_same _ _ _ _ _ _ h.cell
  · rw [hl]; exact h.row.kept fun k hk hlt => (touch_K w K j u).block k hlt (h.ne k hk)

theorem CAt.setCount (h : CAt tc tp W K t vb v c w) (n : Int) : CAt tc tp W K t vb v ⟨c.place, n, c.l⟩ (w.setCell ⟨K, 11, none⟩ (.int .i64 n)) ∧ Heap.Touch (fun k => k = K ∨ own v k) w (w.setCell ⟨K, 11, none⟩ (.int .i64 n)) :=
  h.set (c' := ⟨c.place, n, c.l⟩) (by simp [conC]) rfl
theorem CAt.setPlace (h : CAt tc tp W K t vb v c w) (n : Int) : CAt tc tp W K t vb v ⟨n, c.count, c.l⟩ (w.setCell ⟨K, 10, none⟩ (.int .i64 n)) ∧ Heap.Touch (fun k => k = K ∨ own v k) w (w.setCell ⟨K, 10, none⟩ (.int .i64 n)) :=
  h.set (c' := ⟨n, c.count, c.l⟩) (by simp [conC]) rfl

theorem touch_set6 {F : Nat → Prop} {a w : World} {R : Nat} (h : Heap.Touch F a w) (hR : F R ∨ a.heap.size ≤ R) (a0 a1 a2 a3 a4 a5 : Value) : Heap.Touch F a ((((((w.setCell ⟨R, 0, none⟩ a0).setCell ⟨R, 1, none⟩ a1).setCell ⟨R, 2, none⟩ a2).setCell ⟨R, 3, none⟩ a3).setCell ⟨R, 4, none⟩ a4).setCell ⟨R, 5, none⟩ a5) :=
  (((((h.setCell (p := ⟨R, 0, none⟩) hR _).setCell (p := ⟨R, 1, none⟩) hR _).setCell (p := ⟨R, 2, none⟩) hR _).setCell (p := ⟨R, 3, none⟩) hR _).setCell (p := ⟨R, 4, none⟩) hR _).setCell (p := ⟨R, 5, none⟩) hR _

theorem heap_set6 (w : World) {R k : Nat} (h : k ≠ R) (a0 a1 a2 a3 a4 a5 : Value) : ((((((w.setCell ⟨R, 0, none⟩ a0).setCell ⟨R, 1, none⟩ a1).setCell ⟨R, 2, none⟩ a2).setCell ⟨R, 3, none⟩ a3).setCell ⟨R, 4, none⟩ a4).setCell ⟨R, 5, none⟩ a5).heap[k]? = w.heap[k]? := by
  rw [heap_setCell_other _ _ _ _ h, heap_setCell_other _ _ _ _ h, heap_setCell_other _ _ _ _ h, heap_setCell_other _ _ _ _ h, heap_setCell_other _ _ _ _ h, heap_setCell_other _ _ _ _ h]

theorem res_del {fn : Func} (R8 : Nat) (hf : fn.results = #[.cell R8 47]) (tmps : Array Value) (w : World) (R : Nat) {a0 a1 a2 a3 a4 a5 : Value}
    (h2 : tmps.getD R8 undef = .pointer (some ⟨R, 0, none⟩)) (hR : w.heap[R]? = some (.cells #[a0, a1, a2, a3, a4, a5] 47 (0, 0))) :
    (results fn tmps).run Tryz.prog w = .ok (.agg #[a0, a1, a2, a3, a4, a5]) w := by
  obtain ⟨z0, z1, z2, z3, z4, z5⟩ := sixC hR
  simp only [Array.getD_eq_getD_getElem?] at h2
  simp [results, hf, go_sem, h2, z0, z1, z2, z3, z4, z5]

set_option maxHeartbeats 2000000 in
set_option maxRecDepth 100000 in
theorem told_c (h : PairAt W F D B L last K t vb v c w) (hk : 1 ≤ c.place ∧ c.place ≤ far + 1) (hn : 0 ≤ c.count ∧ c.count ≤ 1000000000) (hm : ML W) (ht : errT t = 0) (x : Rc) (nth : Int) :
    Calls Tryz.prog 68 #[.pointer (some ⟨K, 0, none⟩), .pointer (some ⟨D, 0, none⟩), Sto.recV x, .int .i64 nth] w fun e w' => e = .returned (delV (tellP t L c x nth).2) ∧ CAt tc tp W K t vb v (tellP t L c x nth).1 w' ∧ Heap.Touch (fun k => k = K) w w' := by
  obtain ⟨s, hd, d, hp⟩ := parts x
  unfold tellP delV Sto.recV
  rw [hp.s1, hp.h1, hp.d1]
  simp only
  obtain ⟨w1, hw1⟩ : ∃ w1, w1 = w.alloc (.cells #[.int .i64 x.kind, .int .i64 x.seq, .int .i64 x.time, .string s, .string hd, .string d] 33) := ⟨_, rfl⟩
  have hb1 : Below w.heap.size w w1 := by rw [hw1]; exact (Below.refl _ _).alloc (Nat.le_refl _) _
  have he1 : w1.heap[w.heap.size]? = some (.cells #[.int .i64 x.kind, .int .i64 x.seq, .int .i64 x.time, .string s, .string hd, .string d] 33 (0, 0)) := by rw [hw1]; exact heap_alloc_new w _
  obtain ⟨bx, hbx⟩ : ∃ bx, w.heap.size = bx := ⟨_, rfl⟩
  obtain ⟨w2, hw2⟩ : ∃ w2, w2 = w1.alloc (.cells #[.int .i64 0, .string ⟨#[]⟩, .string ⟨#[]⟩, .int .i64 0, .int .i64 0, .int .i64 0] 47) := ⟨_, rfl⟩
  have hb2 : Below w1.heap.size w1 w2 := by rw [hw2]; exact (Below.refl _ _).alloc (Nat.le_refl _) _
  have he2 : w2.heap[w1.heap.size]? = some (.cells #[.int .i64 0, .string ⟨#[]⟩, .string ⟨#[]⟩, .int .i64 0, .int .i64 0, .int .i64 0] 47 (0, 0)) := by rw [hw2]; exact heap_alloc_new w1 _
  obtain ⟨rb, hrb⟩ : ∃ rb, w1.heap.size = rb := ⟨_, rfl⟩
  have hbw := hb1.trans (hb2.mono hb1.size)
  have h2 := h.next hbw
  have he1' := (hb2.block w.heap.size (heap_lt he1)).trans he1
  rw [hbx] at he1'
  rw [hrb] at he2
  have hKl := heap_lt h.con.cell
  have hlr : bx < rb ∧ K < bx := by have := heap_lt he1; omega
  have h3 := h2.con.setCount (c.count + 1)
  have hp3 : PairAt W F D B L last K t vb v ⟨c.place, c.count + 1, c.l⟩ (w2.setCell ⟨K, 11, none⟩ (.int .i64 (c.count + 1))) := h2.of h3.1 h3.2 fun k hk => .inl hk
  have he13 : (w2.setCell ⟨K, 11, none⟩ (.int .i64 (c.count + 1))).heap[bx]? = _ := (heap_setCell_other _ _ _ _ (show bx ≠ K by omega)).trans he1'
  have he23 : (w2.setCell ⟨K, 11, none⟩ (.int .i64 (c.count + 1))).heap[rb]? = _ := (heap_setCell_other _ _ _ _ (show rb ≠ K by omega)).trans he2
  have ht3 : Heap.Touch (fun k => k = K) w (w2.setCell ⟨K, 11, none⟩ (.int .i64 (c.count + 1))) := (Heap.Touch.ofBelow hbw).after (touch_K w2 K 11 _)
  obtain ⟨w3, hw3⟩ : ∃ w3, w3 = w2.setCell ⟨K, 11, none⟩ (.int .i64 (c.count + 1)) := ⟨_, rfl⟩
  rw [← hw3] at hp3 he13 he23 ht3
  have hlf := fun w' (hb : Below w3.heap.size w3 w') => left_c (hp3.next hb).con hk (hp3.next hb).st hm ht
  obtain ⟨lf, hlfe⟩ : ∃ lf, leftC t L c.place = lf := ⟨_, rfl⟩
  simp only [hlfe] at hlf
  rw [hlfe]
  have c11 := h2.con.cells.2.2.2.2.2.2.2.2.2.2.2.1
  have cf := h2.con.cells.2.2.2.2.2.2.2.2.2.2.2.2.2
  have d11 := hp3.con.cells.2.2.2.2.2.2.2.2.2.2.2.1
  have hKl2 := heap_lt h2.con.cell
  obtain ⟨q0, q1, q2, q3, q4, q5⟩ := sixC he13
  have hw : IntKind.i64.wrap (c.count + 1) = c.count + 1 := IntWalk.i64_in _ (by omega)
  have HRC := Lib.hid (show bx + 1 = rb by rw [← hrb, ← hbx, hw1]; simp)
  have HN0 := Lib.hid (show W.heap.size ≤ w.heap.size ∧ (∀ k, own v k → k < w.heap.size) ∧ ∀ k, own vb k → k < w.heap.size from ⟨h.con.below.size, fun k hk => h.con.row.lt k hk, fun k hk => (h.con.fb k hk).1⟩)
  have HLF := Lib.hid hlf; have HP3 := Lib.hid hp3; have HT3 := Lib.hid ht3; have HE1 := Lib.hid he13; have HE2 := Lib.hid he23; have HBX := Lib.hid hbx; have HRB := Lib.hid hrb
  clear h hb1 he1 hb2 he2 hbw h2 he1' h3 hp3 he13 he23 ht3 hlf hlfe hbx hrb hm ht hp
  go_enter Tryz.func68, Tryz.ntmps68
  go_upto_region 1 with fail
  rw [← hw1, ← hw2, HBX.out, HRC.out]
  clear hw1 hw2
  go_upto_region 2 with fail
  rw [← hw3]
  clear hw3 c11 cf hKl2
  go_region_held3 (fun w' => w'.cell? ⟨bx, 1, none⟩ = some (.int .i64 x.seq) ∧ w'.cell? ⟨bx, 3, none⟩ = some (.string s) ∧ w'.cell? ⟨bx, 5, none⟩ = some (.string d) ∧ w'.cell? ⟨K, 11, none⟩ = some (.int .i64 (c.count + 1))) (first | (with_reducible exact ⟨q1, q3, q5, d11⟩) | (with_reducible exact ⟨z1, z3, z5, zK⟩) | (with_reducible assumption) | go_keep)
    ((go_at_call 163; ((refine (HLF.out _ (Below.refl _ _).drew).mono ?_); rintro e w4 ⟨rfl, h4⟩; have hb4 : Below w3.heap.size w3 w4 := (Below.refl _ _).drew.trans h4; have e1 := (hb4.block bx (heap_lt HE1.out)).trans HE1.out; have e2 := (hb4.block rb (heap_lt HE2.out)).trans HE2.out; obtain ⟨q0, q1, q2, q3, q4, q5⟩ := sixC e1; obtain ⟨r0, r1, r2, r3, r4, r5⟩ := sixC e2; have rf : ∀ j, w4.frozen? ⟨rb, j, none⟩ = false := (fun j => frozen_of_row w4 rb j _ _ e2); have d11 := (HP3.out.next hb4).con.cells.2.2.2.2.2.2.2.2.2.2.2.1; have hrl := heap_lt e2; obtain ⟨z0, z1, z2, z3, z4, z5⟩ := sixC ((heap_set6 w4 (show bx ≠ rb from Nat.ne_of_lt hlr.1) (.int .i64 x.seq) (.string s) (.string d) (.int .i64 (c.count + 1)) (.int .i64 nth) (.int .i64 lf)).trans e1); have zK := (World.cell?_of_block (a := ⟨K, 11, none⟩) (heap_set6 w4 (show K ≠ rb from by omega) (.int .i64 x.seq) (.string s) (.string d) (.int .i64 (c.count + 1)) (.int .i64 nth) (.int .i64 lf))).trans d11; clear h4)))
  have hT4 := HT3.out.after (Heap.Touch.ofBelow hb4)
  have hP4 := HP3.out.next hb4
  have hbr : w.heap.size ≤ rb ∧ w.heap.size = bx ∧ bx < rb := ⟨by have := HBX.out; omega, HBX.out, hlr.1⟩
  have HFI := Lib.hid (show CAt tc tp W K t vb v ⟨c.place, c.count + 1, c.l⟩ (((((((w4.setCell ⟨rb, 0, none⟩ (.int .i64 x.seq)).setCell ⟨rb, 1, none⟩ (.string s)).setCell ⟨rb, 2, none⟩ (.string d)).setCell ⟨rb, 3, none⟩ (.int .i64 (c.count + 1))).setCell ⟨rb, 4, none⟩ (.int .i64 nth)).setCell ⟨rb, 5, none⟩ (.int .i64 lf))) ∧ Heap.Touch (fun k => k = K) w ((((((w4.setCell ⟨rb, 0, none⟩ (.int .i64 x.seq)).setCell ⟨rb, 1, none⟩ (.string s)).setCell ⟨rb, 2, none⟩ (.string d)).setCell ⟨rb, 3, none⟩ (.int .i64 (c.count + 1))).setCell ⟨rb, 4, none⟩ (.int .i64 nth)).setCell ⟨rb, 5, none⟩ (.int .i64 lf)) from by
    refine ⟨hP4.con.touch (F := fun k => k = rb) (touch_set6 (F := fun k => k = rb) (R := rb) (Heap.Touch.refl _ w4) (.inl rfl) _ _ _ _ _ _) (fun k hk => ?_) (fun e => ?_) (fun k hk e => ?_) (fun k hk e => ?_), touch_set6 hT4 (.inr hbr.1) _ _ _ _ _ _⟩
    · have := HN0.out.1; omega
    · omega
    · have := HN0.out.2.1 k hk; omega
    · have := HN0.out.2.2 k hk; omega)
  have HR6 := Lib.hid (set6 (.int .i64 x.seq) (.string s) (.string d) (.int .i64 (c.count + 1)) (.int .i64 nth) (.int .i64 lf) e2)
  clear hT4 hP4 e1 e2 hb4
  go_wp2_with fail
  refine bodyPost_ret (v := .agg #[.int .i64 x.seq, .string s, .string d, .int .i64 (c.count + 1), .int .i64 nth, .int .i64 lf]) (res_del 8 Tryz.results68 _ _ rb rfl HR6.out) rfl ?_
  exact ⟨rfl, HFI.out⟩
end
end Go.Proofs.YthhgfdeegnimjaaGreatDoor.Con

namespace Go.Proofs.YthhgfdeegnimjaaGreatDoor.Con
open Go.RowKit Heap
open Subj (Tok TakerP ML errT errT_facts)
open Sto (StoreAt Right seekR tk recV parts sixC Parts set6 getQ get_any GetPost)
open Rec (Rc far)

section
variable {W w w1 : World} {F : Nat → Prop} {D B K k : Nat} {L : List Rc} {last : Int} {t : TakerP} {vb v : Value} {c : Cn} {g off n cap i : Nat} {p : Pd}

theorem pdsV_set1 (l : List Pd) (k : Nat) (p : Pd) (h : l[k]? = some p) (a : Int) : (pdsV l).set (k * 3 + 1) (.int .i64 a) = pdsV (l.set k ⟨p.seq, a, p.due⟩) := by
  rw [← pdsV_set l k p h a p.due]
  symm
  have h1 := pdsV_at l k p h 2 (by omega)
  obtain ⟨h2, h3⟩ := List.getElem?_eq_some_iff.1 (h1.trans (show (pdC p)[2]? = some (.int .i64 p.due) from rfl))
  apply List.ext_getElem?
  intro j
  rw [List.getElem?_set]
  split
  · rename_i hj
    subst hj
    rw [List.getElem?_set_ne (by omega), List.length_set, if_pos h2, List.getElem?_eq_getElem h2, h3]
  · rfl

theorem CAt.setRow (h : CAt tc tp W K t vb (.slice (some ⟨g, off, none⟩) n cap) c w) (hn : n = c.l.length) (j : Nat) (hj : j < n * 3) (u : Value) {l : List Pd} (hl : (pdsV c.l).set j u = pdsV l) (hll : l.length = c.l.length) :
    CAt tc tp W K t vb (.slice (some ⟨g, off, none⟩) n cap) ⟨c.place, c.count, l⟩ (w.setCell ⟨g, off + j, none⟩ u) ∧ Heap.Touch (fun k => own (.slice (some ⟨g, off, none⟩) n cap) k) w (w.setCell ⟨g, off + j, none⟩ u) := by
  subst hn
  have hg : own (.slice (some ⟨g, off, none⟩) c.l.length cap) g := by simp [own, Value.ownBlock]
  have ht : Heap.Touch (fun k => own (.slice (some ⟨g, off, none⟩) c.l.length cap) k) w (w.setCell ⟨g, off + j, none⟩ u) := (Heap.Touch.refl _ w).setCell (.inl hg) _
  refine ⟨h.put (c2 := ⟨c.place, c.count, l⟩) (ht.mono fun _ _ e => .inr e) ?_ ?_ (fun k hk => .inl hk) h.ne, ht⟩
  · exact (ht.block K (heap_lt h.cell) (fun e => h.ne K e rfl)).trans h.cell
  · show Row _ tp 3 _ l.length (pdsV l)
    rw [hll, ← hl]
    exact h.row.set j hj u

theorem CAt.setNth (h : CAt tc tp W K t vb (.slice (some ⟨g, off, none⟩) n cap) c w) (hn : n = c.l.length) (hp : c.l[i]? = some p) (a : Int) :
    CAt tc tp W K t vb (.slice (some ⟨g, off, none⟩) n cap) ⟨c.place, c.count, c.l.set i ⟨p.seq, a, p.due⟩⟩ (w.setCell ⟨g, off + i * 3 + 1, none⟩ (.int .i64 a)) ∧ Heap.Touch (fun k => own (.slice (some ⟨g, off, none⟩) n cap) k) w (w.setCell ⟨g, off + i * 3 + 1, none⟩ (.int .i64 a)) := by
  have hi := (List.getElem?_eq_some_iff.1 hp).1
  have := h.setRow hn (i * 3 + 1) (by omega) (.int .i64 a) (pdsV_set1 c.l i p hp a) (by rw [List.length_set])
  rw [← Nat.add_assoc] at this
  exact this
theorem CAt.setDue (h : CAt tc tp W K t vb (.slice (some ⟨g, off, none⟩) n cap) c w) (hn : n = c.l.length) (hp : c.l[i]? = some p) (a : Int) :
    CAt tc tp W K t vb (.slice (some ⟨g, off, none⟩) n cap) ⟨c.place, c.count, c.l.set i ⟨p.seq, p.nth, a⟩⟩ (w.setCell ⟨g, off + i * 3 + 2, none⟩ (.int .i64 a)) ∧ Heap.Touch (fun k => own (.slice (some ⟨g, off, none⟩) n cap) k) w (w.setCell ⟨g, off + i * 3 + 2, none⟩ (.int .i64 a)) := by
  have hi := (List.getElem?_eq_some_iff.1 hp).1
  have := h.setRow hn (i * 3 + 2) (by omega) (.int .i64 a) (pdsV_set2 c.l i p hp a) (by rw [List.length_set])
  rw [← Nat.add_assoc] at this
  exact this

/-- The list is put anew into its cell. -/
theorem CAt.setList {v2 : Value} {l : List Pd} (h : CAt tc tp W K t vb v c w) (ht : Heap.Touch (own v) w w1) (hr : Row w1 tp 3 v2 l.length (pdsV l)) (ho : ∀ k, own v2 k → own v k ∨ w.heap.size ≤ k) :
    CAt tc tp W K t vb v2 ⟨c.place, c.count, l⟩ (w1.setCell ⟨K, 12, none⟩ v2) ∧ Heap.Touch (fun k => k = K ∨ own v k) w (w1.setCell ⟨K, 12, none⟩ v2) := by
  have hK1 := (ht.block K (heap_lt h.cell) fun e => h.ne K e rfl).trans h.cell
  have hne : ∀ k, own v2 k → k ≠ K := fun k hk e => by
    subst e
    rcases ho k hk with e | e
    · exact h.ne k e rfl
    · have := heap_lt h.cell; omega
  have htt : Heap.Touch (fun k => k = K ∨ own v k) w (w1.setCell ⟨K, 12, none⟩ v2) := (ht.mono fun _ _ e => .inr e).setCell (p := ⟨K, 12, none⟩) (.inl (.inl rfl)) _
  refine ⟨h.put (c2 := ⟨c.place, c.count, l⟩) htt ?_ ?_ ho hne, htt⟩
  · rw [heap_setCell_same _ _ _ _ _ _ hK1]
    simp [conC]
  · exact hr.kept fun k hk hlt => heap_setCell_other _ _ _ _ (hne k hk)

/-- The round of 'again'. -/
def AgS (W : World) (F : Nat → Prop) (D B : Nat) (L : List Rc) (last : Int) (K : Nat) (t : TakerP) (vb v0 : Value) (c : Cn) (_now : Int) (rb : Nat) (w : World) (A R : List Pd) (wr : World) : Prop :=
  ∃ v, PairAt W F D B L last K t vb v ⟨c.place, c.count, A ++ R⟩ wr ∧ Heap.Touch (fun k => k = K ∨ own v0 k) w wr ∧ (∀ k, own v k → own v0 k ∨ rb < k) ∧ wr.heap[rb]? = some (.cells #[.int .i64 0, .string ⟨#[]⟩, .string ⟨#[]⟩, .int .i64 0, .int .i64 0, .int .i64 0] 47 (0, 0))

def AgP (t : TakerP) (L : List Rc) (now : Int) (l A R : List Pd) : Prop := againP t L now l = (A ++ (againP t L now R).1, (againP t L now R).2) ∧ ∀ p ∈ A ++ R, p ∈ l

theorem AgP.keep {now : Int} {l A R : List Pd} (h : AgP t L now l A (p :: R)) (hd : now < p.due) : AgP t L now l (A ++ [p]) R := by
  refine ⟨?_, fun q hq => h.2 q (by simpa using hq)⟩
  rw [h.1]
  conv => lhs; unfold againP
  rw [if_pos hd]
  simp

theorem AgP.drop {now : Int} {l A R : List Pd} (h : AgP t L now l A (p :: R)) (hd : ¬ now < p.due) (hg : getQ L p.seq = none ∨ (0 < t.most ∧ t.most ≤ p.nth)) : AgP t L now l A R := by
  refine ⟨?_, fun q hq => h.2 q (by rcases List.mem_append.1 hq with h | h <;> simp [h])⟩
  rw [h.1]
  conv => lhs; unfold againP
  rw [if_neg hd]
  rcases hg with hg | hg
  · rw [hg]
  · cases getQ L p.seq with
    | none => rfl
    | some x => simp only [if_pos hg]

theorem AgP.hit {now : Int} {l A R : List Pd} {x : Rc} (h : AgP t L now l A (p :: R)) (hd : ¬ now < p.due) (hg : getQ L p.seq = some x) (hm : ¬ (0 < t.most ∧ t.most ≤ p.nth)) :
    againP t L now l = (A ++ ⟨p.seq, p.nth + 1, now + waitT t (p.nth + 1)⟩ :: R, some (⟨p.seq, p.nth + 1, now + waitT t (p.nth + 1)⟩, x)) := by
  rw [h.1]
  conv => lhs; unfold againP
  rw [if_neg hd, hg]
  simp only [if_neg hm]

theorem AgP.end_ {now : Int} {l A : List Pd} (h : AgP t L now l A []) : againP t L now l = (A, none) := by
  rw [h.1]; simp [againP]

/-- What is told of what is due. -/
def AgainPost (W : World) (K : Nat) (t : TakerP) (vb v : Value) (L : List Rc) (c : Cn) (w : World) (o : List Pd × Option (Pd × Rc)) (e : Ending) (w' : World) : Prop :=
  match o with
  | (l, some (p, x)) => e = .returned (.tuple #[delV (tellP t L ⟨c.place, c.count, l⟩ x p.nth).2, .bool true]) ∧ NextC tc tp W K t vb v w ⟨c.place, c.count + 1, l⟩ w'
  | (l, none) => e = .returned (.tuple #[delV Dl.zero, .bool false]) ∧ NextC tc tp W K t vb v w ⟨c.place, c.count, l⟩ w'

theorem res_del2 {fn : Func} (R8 T7 : Nat) (hf : fn.results = #[.cell R8 47, .tmp T7]) (tmps : Array Value) (w : World) (R : Nat) {a0 a1 a2 a3 a4 a5 b : Value}
    (h2 : tmps.getD R8 undef = .pointer (some ⟨R, 0, none⟩)) (h3 : tmps.getD T7 undef = b) (hR : w.heap[R]? = some (.cells #[a0, a1, a2, a3, a4, a5] 47 (0, 0))) :
    (results fn tmps).run Tryz.prog w = .ok (.tuple #[.agg #[a0, a1, a2, a3, a4, a5], b]) w := by
  obtain ⟨z0, z1, z2, z3, z4, z5⟩ := sixC hR
  simp only [Array.getD_eq_getD_getElem?] at h2 h3
  simp [results, hf, go_sem, h2, h3, z0, z1, z2, z3, z4, z5]
end
end Go.Proofs.YthhgfdeegnimjaaGreatDoor.Con
