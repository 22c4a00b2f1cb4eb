/- Parts of the proof, joined: (*watch).answered, walked. -/
import Derived.Test.YtapmhpnkpjgefaaDoorConsumerRulesUptoM34
import Derived.Test.YtapmhpnkpjgefaaDoorConsumerRulesUptoM35
import Derived.Maps.Ext
namespace Go.Proofs.YtapmhpnkpjgefaaDoor.Con
open Go.RowKit Go.Maps Heap
open Subj (Tok TakerP ML Ints)
open Rec (Rc far)

/-- A turn in its box. -/
theorem elevC {w : World} {bx : Nat} {a0 a1 a2 a3 a4 a5 a6 a7 a8 a9 a10 : Value} {ty : TypeId} (h : w.heap[bx]? = some (.cells #[a0, a1, a2, a3, a4, a5, a6, a7, a8, a9, a10] ty (0, 0))) : w.cell? ⟨bx, 0, none⟩ = some a0 ∧ w.cell? ⟨bx, 1, none⟩ = some a1 ∧ w.cell? ⟨bx, 2, none⟩ = some a2 ∧ w.cell? ⟨bx, 3, none⟩ = some a3 ∧ w.cell? ⟨bx, 4, none⟩ = some a4 := by
  refine ⟨?_, ?_, ?_, ?_, ?_⟩ <;> (rw [cell_of_row w bx _ _ _ _ h]; rfl)

/-- What is marked so far: of those that are no more left. -/
def markD (t : TakerP) (seq : Int) (W : Wt) (left : Lit → Bool) : Int → Bool := fun q => W.done q || (decide (W.nth q ≠ 0) && !left (.int .i64 q) && (decide (q = seq) || (decide (t.ack = 1) && decide (q < seq))))

theorem markD_start (t : TakerP) (seq : Int) (W : Wt) {X : DataW Unit} (h : ∀ k, Maps.has X (.int .i64 k) = decide (W.nth k ≠ 0)) : markD t seq W (Maps.has X) = W.done := by
  funext q
  unfold markD
  rw [h]
  cases decide (W.nth q ≠ 0) <;> simp

theorem markD_end (t : TakerP) (now seq n : Int) (W : Wt) {left : Lit → Bool} (h : ∀ kl, left kl = false) : { W with done := markD t seq W left } = ansW t now seq 1 n W := by
  unfold ansW markD
  simp [h]

theorem markD_step (t : TakerP) (seq : Int) (W : Wt) {left : Lit → Bool} {x : Int} (hl : left (.int .i64 x) = true) (hn : W.nth x ≠ 0) :
    markD t seq W (fun z => left z && !z.sameKey (.int .i64 x)) = if (x = seq ∨ (t.ack = 1 ∧ x < seq)) then upd (markD t seq W left) x true else markD t seq W left := by
  funext q
  by_cases hq : q = x
  · subst hq
    have e : decide (q = seq) = true ∨ decide (q = seq) = false := by cases decide (q = seq) <;> simp
    unfold markD upd
    by_cases hc : q = seq ∨ (t.ack = 1 ∧ q < seq)
    · rw [if_pos hc, if_pos rfl]
      have h1 : (decide (q = seq) || (decide (t.ack = 1) && decide (q < seq))) = true := by
        rcases hc with h | ⟨h, h2⟩
        · simp [h]
        · simp [h, h2]
      simp [h1, hn, Lit.sameKey]
    · rw [if_neg hc]
      have h1 : (decide (q = seq) || (decide (t.ack = 1) && decide (q < seq))) = false := by
        simp only [not_or, not_and] at hc
        by_cases h : t.ack = 1
        · simp [hc.1, h, hc.2 h]
        · simp [hc.1, h]
      simp [h1]
  · have h1 : (Lit.int .i64 q).sameKey (.int .i64 x) = false := by simp [Lit.sameKey, hq]
    have h2 : markD t seq W (fun z => left z && !z.sameKey (.int .i64 x)) q = markD t seq W left q := by unfold markD; simp [h1]
    rw [h2]
    split
    · unfold upd; rw [if_neg hq]
    · rfl

section
variable {w : World} {B md mn mo N n : Nat} {t : TakerP} {vb : Value} {W : Wt}

/-- The watch while nth is gone through: all but that map. -/
structure WRest (B md mn mo N : Nat) (W : Wt) (w : World) : Prop where
  cells : w.heap[B]? = some (.cells #[.map (some md), .map (some mn), .map (some mo), .int .i64 W.last, .int .i64 W.count] 38 (0, 0))
  due : ∃ g, MapI md N W.due g w
  done : MapB mo N W.done w

/-- What goes on in the range. -/
structure RgS (w0 : World) (B md mn mo N n r : Nat) (t : TakerP) (seq : Int) (W : Wt) (X : DataW Unit) (left : Lit → Bool) (cnt : Nat) (wr : World) : Prop where
  rg : wr.ranges Tryd.prog 3 elI mn r n X left cnt
  rest : ∃ N', N' + cnt ≤ N ∧ WRest B md mn mo N' { W with done := markD t seq W left } wr
  touch : Heap.Touch (fun k => k = mo) w0 wr

theorem ranges_blk {R : Value → Option (DataW Unit × List MemPlace)} {w w' : World} {b r n cnt : Nat} {X : DataW Unit} {left : Lit → Bool} (h : w.ranges Tryd.prog 3 R b r n X left cnt) (h1 : w'.heap[b]? = w.heap[b]?) (h2 : w'.heap[r]? = w.heap[r]?) : w'.ranges Tryd.prog 3 R b r n X left cnt := by
  obtain ⟨es, clock, since, seen, c0, a1, a2, a3, a4, a5, a6⟩ := h
  exact ⟨es, clock, since, seen, c0, h1.trans a1, a2, a3, a4, h2.trans a5, a6⟩

theorem WRest.touch {F : Nat → Prop} {w w' : World} (h : WRest B md mn mo N W w) (ht : Heap.Touch F w w') (hB : ¬ F B) (hd : ¬ F md) (ho : ¬ F mo) : WRest B md mn mo N W w' := by
  obtain ⟨g, hg⟩ := h.due
  exact ⟨(ht.block B (heap_lt h.cells) hB).trans h.cells, ⟨g, hg.blk (ht.block md hg.lt hd)⟩, h.done.blk (ht.block mo h.done.lt ho)⟩

/-- How the blocks lie. -/
structure Sep (B md mn mo r : Nat) : Prop where
  lt : B < r ∧ md < r ∧ mn < r ∧ mo < r
  ne : B ≠ mo ∧ md ≠ mo ∧ mn ≠ mo

theorem RgS.step {w0 wr w2 : World} {r cnt cnt2 : Nat} {seq x : Int} {X : DataW Unit} {left : Lit → Bool} {yd : DataW Unit} (h : RgS w0 B md mn mo N n r t seq W X left cnt wr) (hN : N < maxLen) (hs : Sep B md mn mo r) (h0 : w0.heap.size ≤ r)
    (hX : ∀ k, Maps.has X (.int .i64 k) = decide (W.nth k ≠ 0)) (hk : -9223372036854775808 ≤ x ∧ x ≤ 9223372036854775807) (hlk : left (.int .i64 x) = true) (hat : ∀ zd, X.atKey (.int .i64 x) zd = yd)
    (hrg2 : w2.ranges Tryd.prog 3 elI mn r n X (fun z => left z && !z.sameKey (.int .i64 x)) cnt2) (hlt : cnt2 < cnt) (hg2 : wr.grownBy w2 (some r)) :
    w2.heap[B]? = some (.cells #[.map (some md), .map (some mn), .map (some mo), .int .i64 W.last, .int .i64 W.count] 38 (0, 0)) ∧
    ((x = seq ∨ (t.ack = 1 ∧ x < seq)) → ∃ w3, (Instr.mapUpdate 36 (.map (some mo)) (.int .i64 x) (.bool true)).run Tryd.prog w2 = .ok () w3 ∧ RgS w0 B md mn mo N n r t seq W X (fun z => left z && !z.sameKey (.int .i64 x)) cnt2 w3) ∧
    (¬ (x = seq ∨ (t.ack = 1 ∧ x < seq)) → RgS w0 B md mn mo N n r t seq W X (fun z => left z && !z.sameKey (.int .i64 x)) cnt2 w2) ∧ Heap.Touch (fun k => k = mo) w0 w2 := by
  obtain ⟨N', hN', hr⟩ := h.rest
  obtain ⟨s1, s2, s3, s4⟩ := hs.lt
  have ht2 : Heap.Touch (fun k => k = r) wr w2 := (Heap.Touch.refl _ wr).grown hg2 (fun k e => .inl (by simp at e; exact e.symm))
  have hr2 := hr.touch ht2 (by omega) (by omega) (by omega)
  have hn : W.nth x ≠ 0 := by
    have := Maps.has_true_of_atKey hat
    rw [hX] at this
    simpa using this
  have hst := markD_step t seq W hlk hn
  have ht02 : Heap.Touch (fun k => k = mo) w0 w2 := h.touch.trans ht2 fun i hi e => by omega
  refine ⟨hr2.cells, fun hc => ?_, fun hc => ?_, ht02⟩
  · obtain ⟨w3, g1, g2, g3⟩ := hr2.done.put (by omega) hk true
    obtain ⟨gd, hgd⟩ := hr2.due
    rw [if_pos hc] at hst
    refine ⟨w3, g1, ranges_blk hrg2 (g3.block mn hrg2.owns.lt fun e => hs.ne.2.2 e) (g3.block r hrg2.lt fun e => by omega), ⟨N' + 1, by omega, (g3.block B (heap_lt hr2.cells) fun e => hs.ne.1 e).trans hr2.cells, ⟨gd, (hgd.blk (g3.block md hgd.lt fun e => hs.ne.2.1 e)).mono (by omega)⟩, ?_⟩, ht02.trans g3 fun i hi e => e⟩
    simp only
    rw [hst]
    exact g2
  · rw [if_neg hc] at hst
    refine ⟨hrg2, ⟨N', by omega, hr2.cells, hr2.due, ?_⟩, ht02⟩
    simp only
    rw [hst]
    exact hr2.done

set_option maxHeartbeats 8000000 in
set_option maxRecDepth 100000 in
theorem answered_any (hW : WAt B md mn mo N n W w) (hN : N + n ≤ 1000000) (hB : Ints w vb t.back) (hbl : t.back.length ≤ 1048576) (_hFo : ∀ k, OwnW B md mn mo k → ¬ own vb k) (x : Tn) {sx hx dx : ByteArray}
    (hq : -9223372036854775808 ≤ x.seq ∧ x.seq ≤ 9223372036854775807) (hnw : 0 ≤ x.now ∧ x.now ≤ far) (hxn : 0 ≤ x.n ∧ x.n ≤ 100000) (hwt : 0 ≤ waitT t (W.nth x.seq) ∧ waitT t (W.nth x.seq) ≤ 100000) (hso : 1 ≤ x.sort ∧ x.sort ≤ 4) :
    Calls Tryd.prog 11 #[.pointer (some ⟨B, 0, none⟩), takerV t vb, .agg #[.int .i64 x.kind, .int .i64 x.now, .int .i64 x.seq, .int .i64 x.sort, .int .i64 x.n, .int .i64 x.r.kind, .int .i64 x.r.seq, .int .i64 x.r.time, .string sx, .string hx, .string dx]] w
      fun e w' => e = .returned (.tuple #[]) ∧ WAt B md mn mo (N + n + 1) n (ansW t x.now x.seq x.sort x.n W) w' ∧ Heap.Touch (OwnW B md mn mo) w w' := by
  obtain ⟨tn, htn⟩ : ∃ S : ByteArray, (⟨t.name.toArray⟩ : ByteArray) = S := ⟨_, rfl⟩
  obtain ⟨tf, htf⟩ : ∃ S : ByteArray, (⟨t.filt.toArray⟩ : ByteArray) = S := ⟨_, rfl⟩
  have htv : takerV t vb = .agg #[.string tn, .string tf, .int .i64 t.src, .int .i64 t.start, .int .i64 t.ack, .int .i64 t.wait, vb, .int .i64 t.most, .int .i64 t.pend, .bool t.push] := by unfold takerV; rw [htn, htf]
  obtain ⟨kd, hkd⟩ : ∃ z, x.kind = z := ⟨_, rfl⟩
  obtain ⟨nw, hnwe⟩ : ∃ z, x.now = z := ⟨_, rfl⟩
  obtain ⟨sq, hsq⟩ : ∃ z, x.seq = z := ⟨_, rfl⟩
  obtain ⟨so, hsoe⟩ : ∃ z, x.sort = z := ⟨_, rfl⟩
  obtain ⟨xn, hxne⟩ : ∃ z, x.n = z := ⟨_, rfl⟩
  rw [hkd, hnwe, hsq, hsoe, hxne]
  rw [hnwe] at hnw
  rw [hsq] at hq hwt
  rw [hsoe] at hso
  rw [hxne] at hxn
  have hfar : far = 1099511627776 := rfl
  rw [hfar] at hnw
  obtain ⟨w1, hw1⟩ : ∃ w1, w1 = (w.alloc (.cells #[.string tn, .string tf, .int .i64 t.src, .int .i64 t.start, .int .i64 t.ack, .int .i64 t.wait, vb, .int .i64 t.most, .int .i64 t.pend, .bool t.push] 24)).alloc (.cells #[.int .i64 kd, .int .i64 nw, .int .i64 sq, .int .i64 so, .int .i64 xn, .int .i64 x.r.kind, .int .i64 x.r.seq, .int .i64 x.r.time, .string sx, .string hx, .string dx] 44) := ⟨_, rfl⟩
  have hb1 : Below w.heap.size w w1 := by rw [hw1]; exact ((Below.refl _ _).alloc (Nat.le_refl _) _).alloc (by simp) _
  have he1 : w1.heap[w.heap.size]? = some (.cells #[.string tn, .string tf, .int .i64 t.src, .int .i64 t.start, .int .i64 t.ack, .int .i64 t.wait, vb, .int .i64 t.most, .int .i64 t.pend, .bool t.push] 24 (0, 0)) := by
    rw [hw1, Below.heap_alloc _ _ _ (by simp)]; exact heap_alloc_new w _
  have he2 : w1.heap[w.heap.size + 1]? = some (.cells #[.int .i64 kd, .int .i64 nw, .int .i64 sq, .int .i64 so, .int .i64 xn, .int .i64 x.r.kind, .int .i64 x.r.seq, .int .i64 x.r.time, .string sx, .string hx, .string dx] 44 (0, 0)) := by
    rw [hw1]; have := heap_alloc_new (w.alloc (.cells #[.string tn, .string tf, .int .i64 t.src, .int .i64 t.start, .int .i64 t.ack, .int .i64 t.wait, vb, .int .i64 t.most, .int .i64 t.pend, .bool t.push] 24)) (.cells #[.int .i64 kd, .int .i64 nw, .int .i64 sq, .int .i64 so, .int .i64 xn, .int .i64 x.r.kind, .int .i64 x.r.seq, .int .i64 x.r.time, .string sx, .string hx, .string dx] 44)
    simpa using this
  obtain ⟨bt, hbt⟩ : ∃ bt, w.heap.size = bt := ⟨_, rfl⟩
  rw [hbt] at he1 he2
  have hW1 := hW.next hb1
  have hWd := hW1.next ((Below.refl _ w1).drew)
  have hBd := (hB.below hb1).below ((Below.refl _ w1).drew)
  obtain ⟨gd, hgd⟩ := hW.due
  have hlts : B < w1.heap.size ∧ md < w1.heap.size ∧ mn < w1.heap.size ∧ mo < w1.heap.size := by have := hb1.size; have := heap_lt hW.cells; have := hgd.lt; have := hW.nth.lt; have := hW.done.lt; omega
  have HSEP := Lib.hid hlts
  obtain ⟨c0, c1, c2, c3, c4, cf⟩ := fiveC hW1.cells
  obtain ⟨_, k4, _⟩ := tenT he1
  obtain ⟨q0, q1, q2, q3, q4⟩ := elevC he2
  have l1 := hW1.nth.look (k := sq) hq
  rw [htv]
  have t0 : Heap.Touch (OwnW B md mn mo) w w1.drew := (Heap.Touch.ofBelow hb1).trans (Heap.Touch.ofBelow (F := fun _ => False) ((Below.refl _ w1).drew)) fun _ _ e => e.elim
  have t01 : Heap.Touch (OwnW B md mn mo) w w1 := Heap.Touch.ofBelow hb1
  have HW1 := Lib.hid hW1; have HWD := Lib.hid hWd; have HBD := Lib.hid hBd; have HE1 := Lib.hid he1; have HE2 := Lib.hid he2; have HBT := Lib.hid hbt; have HT0 := Lib.hid t0; have HTV := Lib.hid htv; have HT01 := Lib.hid t01
  rcases (show so = 2 ∨ so = 3 ∨ so = 4 ∨ so = 1 from by omega) with rfl | rfl | rfl | rfl
  · obtain ⟨w2, hr2, hW2, ht2⟩ := hWd.putDue (by unfold maxLen; omega) hq (nw + xn)
    have HF := Lib.hid (show WAt B md mn mo (N + n + 1) n (ansW t nw sq 2 xn W) w2 ∧ Heap.Touch (OwnW B md mn mo) w w2 from ⟨hW2.more (by omega) (Nat.le_refl _), t0.trans ht2 fun k _ e => .inr (.inl e)⟩)
    have wz : IntKind.i64.wrap (nw + xn) = nw + xn := IntWalk.i64_in _ (by omega)
    clear hW hW1 hWd hB hBd hgd hbt hb1 he1 he2 htv htn htf hkd hnwe hsq hsoe hxne t0 t01 hW2 ht2 l1 hlts
    go_enter Tryd.func11, Tryd.ntmps11
    go_upto_region 1 with fail
    rw [← hw1, HBT.out]
    clear hw1
    go_upto_region 3 with fail
    go_wp2_with fail
    go_still_tail 12, (by kernel_rfl)
    change wpList _ _ _ _ _ w1.drew
    go_wp2_with fail
    go_end0
    exact ⟨rfl, HF.out⟩
  · obtain ⟨wt, hwte⟩ : ∃ z, waitT t (W.nth sq) = z := ⟨_, rfl⟩
    rw [hwte] at hwt
    have HWA := Lib.hid (show Calls Tryd.prog 26 #[.agg #[.string tn, .string tf, .int .i64 t.src, .int .i64 t.start, .int .i64 t.ack, .int .i64 t.wait, vb, .int .i64 t.most, .int .i64 t.pend, .bool t.push], .int .i64 (W.nth sq)] w1.drew (Subj.WaitIs w1.drew wt) from by
      rw [← htv, ← hwte]; exact wait_r hBd hbl _)
    have HWT := Lib.hid hwte
    have wz : IntKind.i64.wrap (nw + wt) = nw + wt := IntWalk.i64_in _ (by omega)
    have hdis : md ≠ bt ∧ md ≠ bt + 1 := by have := hgd.lt; omega
    have HS5 := Lib.hid (show ∀ w', Heap.Touch (fun k => k = md) w1 w' → w'.cell? ⟨B, 0, none⟩ = some (.map (some md)) ∧ w'.cell? ⟨B, 1, none⟩ = some (.map (some mn)) ∧ w'.cell? ⟨bt + 1, 1, none⟩ = some (.int .i64 nw) ∧ w'.cell? ⟨bt + 1, 2, none⟩ = some (.int .i64 sq) ∧ w'.cell? ⟨bt, 0, none⟩ = some (.string tn) ∧ w'.cell? ⟨bt, 1, none⟩ = some (.string tf) ∧ w'.cell? ⟨bt, 2, none⟩ = some (.int .i64 t.src) ∧ w'.cell? ⟨bt, 3, none⟩ = some (.int .i64 t.start) ∧ w'.cell? ⟨bt, 4, none⟩ = some (.int .i64 t.ack) ∧ w'.cell? ⟨bt, 5, none⟩ = some (.int .i64 t.wait) ∧ w'.cell? ⟨bt, 6, none⟩ = some (vb) ∧ w'.cell? ⟨bt, 7, none⟩ = some (.int .i64 t.most) ∧ w'.cell? ⟨bt, 8, none⟩ = some (.int .i64 t.pend) ∧ w'.cell? ⟨bt, 9, none⟩ = some (.bool t.push) ∧ (Instr.lookup 35 (.map (some mn)) (.int .i64 sq) false).run Tryd.prog w' = .ok (.int .i64 (W.nth sq)) w' from fun w' ht => by
      have hne := hW1.neB
      obtain ⟨b0, b1, b2, b3, b4, bf⟩ := fiveC ((ht.block B hlts.1 (fun e => hne.1 e)).trans hW1.cells)
      obtain ⟨y0, y1, y2, y3, y4⟩ := elevC ((ht.block (bt + 1) (heap_lt he2) (fun e => hdis.2 e.symm)).trans he2)
      obtain ⟨k0, k1, k2, k3, k4, k5, k6, k7, k8, k9, _⟩ := tenC ((ht.block bt (heap_lt he1) (fun e => hdis.1 e.symm)).trans he1)
      exact ⟨b0, b1, y1, y2, k0, k1, k2, k3, k4, k5, k6, k7, k8, k9, (hW1.nth.blk (ht.block mn hW1.nth.lt (fun e => hW1.ne.1 e.symm))).look hq⟩)
    have tc0 : Heap.Touch (fun k => k = md) w1 w1 := Heap.Touch.refl _ _
    have tcd : Heap.Touch (fun k => k = md) w1 w1.drew := Heap.Touch.ofBelow ((Below.refl _ w1).drew)
    clear hW hW1 hWd hB hBd hgd hbt hb1 he1 he2 htv htn htf hkd hnwe hsq hsoe hxne t0 t01 hwte hlts hdis
    go_enter Tryd.func11, Tryd.ntmps11
    go_upto_region 1 with fail
    rw [← hw1, HBT.out]
    clear hw1
    go_upto_region 5 with fail
    clear c0 c1 c2 c3 c4 cf k4 q0 q1 q2 q3 q4 l1
    go_region_held3 (fun w' => w'.cell? ⟨B, 0, none⟩ = some (.map (some md)) ∧ w'.cell? ⟨B, 1, none⟩ = some (.map (some mn)) ∧ w'.cell? ⟨bt + 1, 1, none⟩ = some (.int .i64 nw) ∧ w'.cell? ⟨bt + 1, 2, none⟩ = some (.int .i64 sq) ∧ w'.cell? ⟨bt, 0, none⟩ = some (.string tn) ∧ w'.cell? ⟨bt, 1, none⟩ = some (.string tf) ∧ w'.cell? ⟨bt, 2, none⟩ = some (.int .i64 t.src) ∧ w'.cell? ⟨bt, 3, none⟩ = some (.int .i64 t.start) ∧ w'.cell? ⟨bt, 4, none⟩ = some (.int .i64 t.ack) ∧ w'.cell? ⟨bt, 5, none⟩ = some (.int .i64 t.wait) ∧ w'.cell? ⟨bt, 6, none⟩ = some (vb) ∧ w'.cell? ⟨bt, 7, none⟩ = some (.int .i64 t.most) ∧ w'.cell? ⟨bt, 8, none⟩ = some (.int .i64 t.pend) ∧ w'.cell? ⟨bt, 9, none⟩ = some (.bool t.push) ∧ (Instr.lookup 35 (.map (some mn)) (.int .i64 sq) false).run Tryd.prog w' = .ok (.int .i64 (W.nth sq)) w') (first | (with_reducible exact HS5.out _ tc0) | (with_reducible exact HS5.out _ tcd) | (with_reducible exact HS5.out _ tc8) | (with_reducible exact HS5.out _ tc9) | go_keep)
      (first
        | (go_at_call 26; ((refine HWA.out.mono ?_); rintro e w8 ⟨rfl, hb8⟩; have tc8 := tcd.after (Heap.Touch.ofBelow hb8); obtain ⟨w9, hr9, hW9, ht9⟩ := (HWD.out.next hb8).putDue (by unfold maxLen; omega) hq (nw + wt); have tc9 := tc8.after ht9)))
    have HF := Lib.hid (show WAt B md mn mo (N + n + 1) n (ansW t nw sq 3 xn W) w9 ∧ Heap.Touch (OwnW B md mn mo) w w9 from ⟨by
      have := hW9.more (M := N + n + 1) (by omega) (Nat.le_refl n)
      unfold ansW
      rw [if_neg (by decide), if_pos rfl, HWT.out]
      exact this, HT01.out.trans tc9 fun k _ e => .inr (.inl e)⟩)
    clear hb8 hW9 ht9
    go_wp2_with fail
    go_end0
    exact ⟨rfl, HF.out⟩
  · obtain ⟨w2, hr2, hW2, ht2⟩ := hWd.putDone (by unfold maxLen; omega) hq true
    have HF := Lib.hid (show WAt B md mn mo (N + n + 1) n (ansW t nw sq 4 xn W) w2 ∧ Heap.Touch (OwnW B md mn mo) w w2 from ⟨hW2.more (by omega) (Nat.le_refl _), t0.trans ht2 fun k _ e => .inr (.inr (.inr e))⟩)
    clear hW hW1 hWd hB hBd hgd hbt hb1 he1 he2 htv htn htf hkd hnwe hsq hsoe hxne t0 t01 hW2 ht2 l1 hlts
    go_enter Tryd.func11, Tryd.ntmps11
    go_upto_region 1 with fail
    rw [← hw1, HBT.out]
    clear hw1
    go_upto_region 7 with fail
    go_wp2_with fail
    go_still_tail 6, (by kernel_rfl)
    change wpList _ _ _ _ _ w1.drew
    go_wp2_with fail
    go_end0
    exact ⟨rfl, HF.out⟩
  · obtain ⟨X, ho, ha, hX⟩ := hW1.nth
    have hsz := ho.size_le
    have HX := Lib.hid hX; have HA := Lib.hid ha; have HO := Lib.hid ho; have HZ := Lib.hid hsz
    clear hW hW1 hWd hB hBd hgd hbt hb1 he1 he2 htv htn htf hkd hnwe hsq hsoe hxne t0 t01 l1 ho ha hX hsz hlts
    go_enter Tryd.func11, Tryd.ntmps11
    go_upto_region 1 with fail
    rw [← hw1, HBT.out]
    clear hw1
    go_wp2_with (first | (at_range; refine wpList_range_own _ rfl _ 35 rfl 3 3 keyI Tryd.underlying35 elI mn _ X rfl HO.out ?_; intro w0 hrg0 hg0 hs0))
    (try go_frame)
    have H0 := Lib.hid (show RgS w1 B md mn mo (N + n) n w1.heap.size t sq W X (Maps.has X) (Maps.size X) w0 from by
      have ht0 : Heap.Touch (fun k => k = mo) w1 w0 := (Heap.Touch.refl _ w1).grown hg0 (fun k e => by simp at e)
      refine ⟨hrg0, ⟨N, by have := HZ.out; omega, ?_⟩, ht0⟩
      rw [markD_start t sq W HX.out]
      have hW0 := HW1.out.next (w' := w0) ⟨hg0.os, hg0.tape, hg0.output, hg0.size, fun k hk => hg0.block k hk (by simp)⟩
      exact ⟨hW0.cells, hW0.due, hW0.done⟩)
    have HBX := Lib.hid (show Below w1.heap.size w1 w0 from ⟨hg0.os, hg0.tape, hg0.output, hg0.size, fun k hk => hg0.block k hk (by simp)⟩)
    clear hrg0 hg0 hs0 c0 c1 c2 c3 c4 cf k4 q0 q1 q2 q3 q4
    go_loopw [6] (fun s6 wr => ∃ (left : Lit → Bool) (cnt : Nat), Hid (RgS w1 B md mn mo (N + n) n w1.heap.size t sq W X left cnt wr)) (fun _ wr => wr.rangeLeft mn w1.heap.size)
    case atStart => exact ⟨_, _, H0⟩
    case round =>
      obtain ⟨left, cnt, HR⟩ := hrel
      clear H0
      go_wp2_with (first | (at_next; refine wpList_next_ranges _ rfl _ rfl 3 keyI elI (Value.int .i64) (fun v : Value => v) (fun key kl hkey => by obtain ⟨x, rfl, _⟩ := Maps.keyOf_int_inv Tryd.underlying3 hkey; exact ⟨x, rfl⟩) (fun v y hv => ⟨v, rfl⟩) mn w1.heap.size _ _ _ _ rfl HR.out.rg ?_ ?_))
      · intro _ hl0
        have HF := Lib.hid (show WAt B md mn mo (N + n + 1) n (ansW t nw sq 1 xn W) wr ∧ Heap.Touch (OwnW B md mn mo) w wr from by
          obtain ⟨N', hN', hr⟩ := HR.out.rest
          obtain ⟨gd, hgd⟩ := hr.due
          rw [markD_end t nw sq xn W hl0] at hr hgd
          refine ⟨⟨?_, ⟨gd, ?_⟩, ⟨X, HR.out.rg.owns, HA.out, HX.out⟩, hr.done.mono (by omega), HW1.out.ne⟩, HT01.out.trans HR.out.touch fun k _ e => .inr (.inr (.inr e))⟩
          · exact hr.cells
          · exact hgd.mono (by omega))
        clear hl0
        go_wp2_with fail
        go_end0
        exact ⟨rfl, HF.out⟩
      · intro x' c kl yd yp w2 cnt2 hkey hlk hv hat hrg2 hlt hg2 hs2 hen
        obtain ⟨x'', ex, rfl, hwx⟩ := Maps.keyOf_int_inv Tryd.underlying3 hkey
        cases ex
        have hkx : -9223372036854775808 ≤ x' ∧ x' ≤ 9223372036854775807 := by
          have h9 := hwx
          simp [Lit.wf] at h9
          exact h9
        obtain ⟨h2, hp, hm, ht2⟩ := HR.out.step (by unfold maxLen; omega) ⟨HSEP.out, ⟨fun e => HW1.out.neB.2.2 e, HW1.out.ne.2.1, HW1.out.ne.2.2⟩⟩ (Nat.le_refl _) HX.out hkx hlk hat hrg2 hlt hg2
        obtain ⟨c0, c1, c2, c3, c4, cf⟩ := fiveC h2
        have heT := (ht2.block bt (heap_lt HE1.out) (fun e => by have := HW1.out.done.obj; rw [← e, HE1.out] at this; obtain ⟨_, _, this⟩ := this; cases this)).trans HE1.out
        have heX := (ht2.block (bt + 1) (heap_lt HE2.out) (fun e => by have := HW1.out.done.obj; rw [← e, HE2.out] at this; obtain ⟨_, _, this⟩ := this; cases this)).trans HE2.out
        obtain ⟨_, k4, _⟩ := tenT heT
        obtain ⟨q0, q1, q2, q3, q4⟩ := elevC heX
        have HOLD := Lib.hid HR.out.rg.left_eq
        have HLT := Lib.hid hlt; have HP := Lib.hid hp; have HM := Lib.hid hm
        clear hlk hat hrg2 hlt hg2 hs2 hkey hv hwx hp hm ht2 heT heX h2
        by_cases hc : x' = sq
        · obtain ⟨w3, hr3, hS3⟩ := HP.out (.inl hc)
          have HS3 := Lib.hid hS3
          have hc2 : (x' == sq) = true := by simpa using hc
          clear hS3 hc
          go_wp2_with fail
          exact ⟨⟨_, _, HS3⟩, by rw [HS3.out.rg.left_eq, HOLD.out]; exact HLT.out⟩
        · have hc2 : (x' == sq) = false := by simpa using hc
          by_cases ha : t.ack = 1
          · have ha2 : (t.ack == 1) = true := by simpa using ha
            by_cases hl : x' < sq
            · obtain ⟨w3, hr3, hS3⟩ := HP.out (.inr ⟨ha, hl⟩)
              have HS3 := Lib.hid hS3
              have hl2 : decide (x' < sq) = true := decide_eq_true hl
              clear hS3
              go_wp2_with fail
              exact ⟨⟨_, _, HS3⟩, by rw [HS3.out.rg.left_eq, HOLD.out]; exact HLT.out⟩
            · have HS3 := Lib.hid (HM.out (by rintro (e | ⟨_, e⟩); exact hc e; exact hl e))
              have hl2 : decide (x' < sq) = false := decide_eq_false hl
              go_wp2_with fail
              exact ⟨⟨_, _, HS3⟩, by rw [HS3.out.rg.left_eq, HOLD.out]; exact HLT.out⟩
          · have ha2 : (t.ack == 1) = false := by simpa using ha
            have HS3 := Lib.hid (HM.out (by rintro (e | ⟨e, _⟩); exact hc e; exact ha e))
            go_wp2_with fail
            exact ⟨⟨_, _, HS3⟩, by rw [HS3.out.rg.left_eq, HOLD.out]; exact HLT.out⟩
end
end Go.Proofs.YtapmhpnkpjgefaaDoor.Con
