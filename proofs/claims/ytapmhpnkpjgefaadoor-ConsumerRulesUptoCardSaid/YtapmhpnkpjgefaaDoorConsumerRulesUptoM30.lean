/- Parts of the proof, joined: (*Consumer).Next, walked. -/
import Derived.Test.YtapmhpnkpjgefaaDoorConsumerRulesUptoM8
import Derived.Test.YtapmhpnkpjgefaaDoorConsumerRulesUptoM29
namespace Go.Proofs.YtapmhpnkpjgefaaDoor.Con
open Go.RowKit Heap
open Subj (Tok TakerP ML errT errT_facts)
open Sto (StoreAt Right seekR tk recV parts sixC Parts set6 getQ get_any GetPost)
open Rec (Rc far)

section
variable {W w w1 : World} {F : Nat → Prop} {D B K k : Nat} {L : List Rc} {last : Int} {t : TakerP} {vb v : Value} {c : Cn}

/-- The consumer's cells, a store into a block that is none of its own. -/
theorem CAt.set6 {v : Value} (h : CAt tc tp W K t vb v c w) {rb : Nat} (h0 : W.heap.size ≤ rb) (h1 : K ≠ rb) (h2 : ∀ k, own v k → k ≠ rb) (h3 : ∀ k, own vb k → k ≠ rb) (a0 a1 a2 a3 a4 a5 : Value) :
    CAt tc tp W K t vb v c ((((((w.setCell ⟨rb, 0, none⟩ a0).setCell ⟨rb, 1, none⟩ a1).setCell ⟨rb, 2, none⟩ a2).setCell ⟨rb, 3, none⟩ a3).setCell ⟨rb, 4, none⟩ a4).setCell ⟨rb, 5, none⟩ a5) :=
  h.touch (F := fun k => k = rb) (touch_set6 (F := fun k => k = rb) (R := rb) (Heap.Touch.refl _ w) (.inl rfl) _ _ _ _ _ _) (fun k hk => by omega) h1 h2 h3

/-- What a consumer's Next leaves, seen from its beginning: the result's block is rb. -/
def NxS (W : World) (K : Nat) (t : TakerP) (vb v : Value) (w : World) (rb : Nat) (c' : Cn) (w' : World) : Prop :=
  ∃ v', CAt tc tp W K t vb v' c' w' ∧ Heap.Touch (fun k => k = K ∨ own v k) w w' ∧ (∀ k, own v' k → own v k ∨ rb < k) ∧ ∃ a0 a1 a2 a3 a4 a5, w'.heap[rb]? = some (.cells #[a0, a1, a2, a3, a4, a5] 49 (0, 0))

def NextPost (W : World) (K : Nat) (t : TakerP) (vb v : Value) (w : World) (o : Cn × Dl × Nat) (e : Ending) (w' : World) : Prop :=
  e = .returned (.tuple #[delV o.2.1, .int .i64 (o.2.2 : Nat)]) ∧ NextC tc tp W K t vb v w o.1 w'

theorem NxS.put {rb : Nat} {c' : Cn} (h : NxS W K t vb v w rb c' w1) (hrb : w.heap.size = rb) (hW : W.heap.size ≤ w.heap.size) (hK : K < rb) (hv : ∀ k, own v k → k < rb) (hvb : ∀ k, own vb k → k < rb) (b0 b1 b2 b3 b4 b5 : Value) :
    NextC tc tp W K t vb v w c' ((((((w1.setCell ⟨rb, 0, none⟩ b0).setCell ⟨rb, 1, none⟩ b1).setCell ⟨rb, 2, none⟩ b2).setCell ⟨rb, 3, none⟩ b3).setCell ⟨rb, 4, none⟩ b4).setCell ⟨rb, 5, none⟩ b5) ∧
    ((((((w1.setCell ⟨rb, 0, none⟩ b0).setCell ⟨rb, 1, none⟩ b1).setCell ⟨rb, 2, none⟩ b2).setCell ⟨rb, 3, none⟩ b3).setCell ⟨rb, 4, none⟩ b4).setCell ⟨rb, 5, none⟩ b5).heap[rb]? = some (.cells #[b0, b1, b2, b3, b4, b5] 49 (0, 0)) := by
  obtain ⟨v', hc, ht, ho, a0, a1, a2, a3, a4, a5, hr⟩ := h
  refine ⟨⟨v', hc.set6 (by omega) (by omega) (fun k hk e => ?_) (fun k hk e => ?_) _ _ _ _ _ _, touch_set6 ht (.inr (by omega)) _ _ _ _ _ _, fun k hk => (ho k hk).imp id fun h => by omega⟩, Sto.set6 _ _ _ _ _ _ hr⟩
  · rcases ho k hk with h | h
    · have := hv k h; omega
    · omega
  · have := hvb k hk; omega

/-- One pending delivery more: what is told of the worlds on the way. -/
theorem append_pd {v2 : Value} {wc w6 : World} {rb bq n : Nat} {l1 : List Pd} {z0 z1 : Obj} {q d : Int} (hp : PairAt W F D B L last K t vb v2 ⟨c.place, c.count, l1⟩ wc) (hn : l1.length = n) (hT : Heap.Touch (fun k => k = K ∨ own v k) w wc) (hO : ∀ k, own v2 k → own v k ∨ rb < k)
    (hR : wc.heap[rb]? = some z0) (hE : wc.heap[bq]? = some z1) (hrb : w.heap.size = rb) (hKr : K < rb) (hvr : ¬ own v rb) (hKb : K < bq) (hvb : ∀ k, own v2 k → k < bq) (hb6 : Below wc.heap.size wc w6) :
    PairAt W F D B L last K t vb v2 ⟨c.place, c.count, l1⟩ (w6.alloc (.cells #[.int .i64 q, .int .i64 1, .int .i64 d] 70)) ∧ Row (w6.alloc (.cells #[.int .i64 q, .int .i64 1, .int .i64 d] 70)) tp 3 v2 n (pdsV l1) ∧
    (∀ j u, ([.int .i64 q, .int .i64 1, .int .i64 d] : List Value)[j]? = some u → (w6.alloc (.cells #[.int .i64 q, .int .i64 1, .int .i64 d] 70)).cell? ((⟨w6.heap.size, 0, none⟩ : Addr).add j) = some u) ∧
    ∀ v3 w7, Row w7 tp 3 v3 (n + 1) (pdsV l1 ++ [.int .i64 q, .int .i64 1, .int .i64 d]) → Heap.Touch (own v2) (w6.alloc (.cells #[.int .i64 q, .int .i64 1, .int .i64 d] 70)) w7 → (∀ k, own v3 k → own v2 k ∨ (w6.alloc (.cells #[.int .i64 q, .int .i64 1, .int .i64 d] 70)).heap.size ≤ k) →
      (∃ v3', PairAt W F D B L last K t vb v3' ⟨c.place, c.count, l1 ++ [⟨q, 1, d⟩]⟩ (w7.setCell ⟨K, 12, none⟩ v3) ∧ Heap.Touch (fun k => k = K ∨ own v k) w (w7.setCell ⟨K, 12, none⟩ v3) ∧ (∀ k, own v3' k → own v k ∨ rb < k) ∧ (w7.setCell ⟨K, 12, none⟩ v3).heap[rb]? = some z0 ∧ (w7.setCell ⟨K, 12, none⟩ v3).heap[bq]? = some z1) ∧
      w7.cell? ⟨K, 12, none⟩ = some v2 ∧ (∀ j, w7.frozen? ⟨K, j, none⟩ = false) ∧ K < w7.heap.size := by
  have hba : Below wc.heap.size wc (w6.alloc (.cells #[.int .i64 q, .int .i64 1, .int .i64 d] 70)) := hb6.alloc hb6.size _
  have hpa := hp.next hba
  refine ⟨hpa, by have := hpa.con.row; simp only [hn] at this; exact this, fun j u hj => ?_, fun v3 w7 r7 t7 o7 => ?_⟩
  · rw [Addr.add_lit, cell_of_row _ w6.heap.size (0 + j) _ _ _ (heap_alloc_new w6 _), Nat.zero_add]
    rcases j with _ | _ | _ | j
    · simpa using hj
    · simpa using hj
    · simpa using hj
    · simp at hj
  · have h7 := hpa.con.setList (l := l1 ++ [⟨q, 1, d⟩]) t7 (by rw [List.length_append, List.length_singleton, hn, pdsV_append]; exact r7) o7
    have hp7 := hpa.of h7.1 h7.2 o7
    have hK7 := (t7.block K (heap_lt hpa.con.cell) (fun e => hpa.con.ne K e rfl)).trans hpa.con.cell
    have hrl := heap_lt hR
    have hel := heap_lt hE
    refine ⟨⟨v3, hp7, (hT.after (Heap.Touch.ofBelow hba)).trans h7.2 (fun k hk e => ?_), fun k hk => ?_, ?_, ?_⟩, by rw [cell_of_row w7 K 12 _ _ _ hK7]; rfl, fun j => frozen_of_row w7 K j _ _ hK7, heap_lt hK7⟩
    · rcases e with e | e
      · exact .inl e
      · rcases hO k e with e | e
        · exact .inr e
        · omega
    · rcases o7 k hk with e | e
      · exact hO k e
      · right; have := hba.size; omega
    · refine (h7.2.block rb (Nat.lt_of_lt_of_le hrl hba.size) (fun e => ?_)).trans ((hba.block rb hrl).trans hR)
      rcases e with e | e
      · omega
      · rcases hO rb e with e | e
        · exact hvr e
        · omega
    · refine (h7.2.block bq (Nat.lt_of_lt_of_le hel hba.size) (fun e => ?_)).trans ((hba.block bq hel).trans hE)
      rcases e with e | e
      · omega
      · have := hvb bq e; omega

set_option maxHeartbeats 8000000 in
set_option maxRecDepth 100000 in
theorem next_c (h : PairAt W F D B L last K t vb v c w) (hk : Ok k c) (hkb : k ≤ 99999) (hm : ML W) (ht : errT t = 0) (now : Int) :
    Calls Tryd.prog 8 #[.pointer (some ⟨K, 0, none⟩), .pointer (some ⟨D, 0, none⟩), .int .i64 now] w (NextPost W K t vb v w (nextP t L now c)) := by
  have hcnt := hk.count
  have hlen := hk.len
  have hfar : far = 1099511627776 := rfl
  obtain ⟨O, hO⟩ : ∃ O, nextP t L now c = O := ⟨_, rfl⟩
  rw [hO]
  unfold nextP at hO
  obtain ⟨wz, hwz⟩ : ∃ wz, wz = w.alloc (.cells #[.int .i64 0, .string ⟨#[]⟩, .string ⟨#[]⟩, .int .i64 0, .int .i64 0, .int .i64 0] 49) := ⟨_, rfl⟩
  have hbz : Below w.heap.size w wz := by rw [hwz]; exact (Below.refl _ _).alloc (Nat.le_refl _) _
  have hez : wz.heap[w.heap.size]? = some (.cells #[.int .i64 0, .string ⟨#[]⟩, .string ⟨#[]⟩, .int .i64 0, .int .i64 0, .int .i64 0] 49 (0, 0)) := by rw [hwz]; exact heap_alloc_new w _
  obtain ⟨rb, hrb⟩ : ∃ rb, w.heap.size = rb := ⟨_, rfl⟩
  rw [hrb] at hez
  have hKr : K < rb := by have := heap_lt h.con.cell; omega
  have hPUT := fun (c' : Cn) (w1 : World) (hx : NxS W K t vb v w rb c' w1) => hx.put hrb h.below.size hKr (fun k hk => by rw [← hrb]; exact h.con.row.lt k hk) (fun k hk => by rw [← hrb]; exact (h.con.fb k hk).1)
  have HPUT := Lib.hid hPUT; have HH := Lib.hid h; have HZ := Lib.hid (h.next hbz); have HBZ := Lib.hid hbz; have HEZ := Lib.hid hez; have HRB := Lib.hid hrb; have HK := Lib.hid hk; have HML := Lib.hid hm; have HT := Lib.hid ht
  obtain ⟨r0, r1, r2, r3, r4, r5⟩ := sixC hez
  have rf : ∀ j, wz.frozen? ⟨rb, j, none⟩ = false := fun j => frozen_of_row wz rb j _ _ hez
  have hrl := heap_lt hez
  clear h hbz hez hrb hk hm ht hPUT
  go_enter Tryd.func8, Tryd.ntmps8
  go_upto_region 1 with fail
  rw [← hwz, HRB.out]
  clear hwz
  by_cases hnow : now < 0 ∨ far < now
  · rw [if_pos hnow] at hO
    subst hO
    have HFI := Lib.hid (HPUT.out c wz ⟨v, HZ.out.con, Heap.Touch.ofBelow HBZ.out, fun k hk => .inl hk, _, _, _, _, _, _, HEZ.out⟩ (.int .i64 0) (.string ⟨#[]⟩) (.string ⟨#[]⟩) (.int .i64 0) (.int .i64 0) (.int .i64 0))
    have h1 : now < 0 ∨ (¬ now < 0 ∧ 1099511627776 < now) := by omega
    rcases h1 with h1 | ⟨h1, h2⟩
    all_goals
      go_wp2_with fail
      refine bodyPost_ret (v := .tuple #[.agg #[.int .i64 0, .string ⟨#[]⟩, .string ⟨#[]⟩, .int .i64 0, .int .i64 0, .int .i64 0], .int .i64 1]) (res_del2 6 7 Tryd.results8 _ _ rb rfl rfl HFI.out.2) rfl ?_
      exact ⟨rfl, HFI.out.1⟩
  · rw [if_neg hnow] at hO
    have hn0 : 0 ≤ now ∧ now ≤ far := by omega
    have hn1 : ¬ now < 0 := by omega
    have hn2 : ¬ (1099511627776 : Int) < now := by omega
    have HAG := Lib.hid (again_c HZ.out HK.out (by omega) HML.out HT.out now hn0)
    have hal := again_len t L now c.l
    have HOK := Lib.hid (again_ok (L := L) HT.out HK.out hn0)
    obtain ⟨ag, hag⟩ : ∃ ag, againP t L now c.l = ag := ⟨_, rfl⟩
    rw [hag] at HAG hal HOK hO
    obtain ⟨l1, o1⟩ := ag
    clear hag hnow r0 r1 r2 r3 r4 r5 rf hrl
    go_wp2_with fail
    refine HAG.out.mono ?_
    intro e w2 hp2
    cases o1 with
    | some px =>
      obtain ⟨p, x⟩ := px
      obtain ⟨rfl, v2, hc2, ht2, ho2⟩ := hp2
      simp only at hO
      obtain ⟨dl, hdl⟩ : ∃ dl, (tellP t L ⟨c.place, c.count, l1⟩ x p.nth).2 = dl := ⟨_, rfl⟩
      have hO2 : O = (⟨c.place, c.count + 1, l1⟩, dl, 0) := by rw [← hO, ← hdl]; rfl
      subst hO2
      rw [hdl]
      clear hO hdl
      obtain ⟨ds, hds⟩ : ∃ ds : ByteArray, (⟨dl.subj.toArray⟩ : ByteArray) = ds := ⟨_, rfl⟩
      obtain ⟨dd, hddd⟩ : ∃ dd : ByteArray, (⟨dl.data.toArray⟩ : ByteArray) = dd := ⟨_, rfl⟩
      have hdv : delV dl = .agg #[.int .i64 dl.seq, .string ds, .string dd, .int .i64 dl.count, .int .i64 dl.nth, .int .i64 dl.left] := by unfold delV; rw [hds, hddd]
      have HDV := Lib.hid hdv
      rw [hdv]
      obtain ⟨w3, hw3⟩ : ∃ w3, w3 = w2.alloc (.cells #[.int .i64 dl.seq, .string ds, .string dd, .int .i64 dl.count, .int .i64 dl.nth, .int .i64 dl.left] 49) := ⟨_, rfl⟩
      have hb3 : Below w2.heap.size w2 w3 := by rw [hw3]; exact (Below.refl _ _).alloc (Nat.le_refl _) _
      have he3 : w3.heap[w2.heap.size]? = some (.cells #[.int .i64 dl.seq, .string ds, .string dd, .int .i64 dl.count, .int .i64 dl.nth, .int .i64 dl.left] 49 (0, 0)) := by rw [hw3]; exact heap_alloc_new w2 _
      obtain ⟨bx, hbx⟩ : ∃ bx, w2.heap.size = bx := ⟨_, rfl⟩
      rw [hbx] at he3
      have hvr : ¬ own v rb := fun e => by have := HH.out.con.row.lt rb e; have := HRB.out; omega
      have hr2 := (ht2.block rb (heap_lt HEZ.out) (fun e => by rcases e with e | e; omega; exact hvr e)).trans HEZ.out
      have hr3 := (hb3.block rb (heap_lt hr2)).trans hr2
      have hnx : NxS W K t vb v w rb ⟨c.place, c.count + 1, l1⟩ w3 := ⟨v2, hc2.next hb3, ((Heap.Touch.ofBelow HBZ.out).after ht2).after (Heap.Touch.ofBelow hb3), fun k hk => (ho2 k hk).imp id fun h => by have := heap_lt HEZ.out; omega, _, _, _, _, _, _, hr3⟩
      have HFI := Lib.hid (HPUT.out _ w3 hnx (.int .i64 dl.seq) (.string ds) (.string dd) (.int .i64 dl.count) (.int .i64 dl.nth) (.int .i64 dl.left))
      have HBX := Lib.hid hbx
      obtain ⟨q0, q1, q2, q3, q4, q5⟩ := sixC he3
      obtain ⟨r0, r1, r2, r3, r4, r5⟩ := sixC hr3
      have rf : ∀ j, w3.frozen? ⟨rb, j, none⟩ = false := fun j => frozen_of_row w3 rb j _ _ hr3
      have hrl := heap_lt hr3
      have hbl := heap_lt he3
      clear hc2 ht2 ho2 hb3 he3 hr2 hr3 hnx hbx hds hddd hdv HAG
      go_upto_region 4 with fail
      rw [← hw3, HBX.out]
      clear hw3
      go_wp2_with fail
      refine bodyPost_ret (v := .tuple #[.agg #[.int .i64 dl.seq, .string ds, .string dd, .int .i64 dl.count, .int .i64 dl.nth, .int .i64 dl.left], .int .i64 0]) (res_del2 6 7 Tryd.results8 _ _ rb rfl rfl HFI.out.2) rfl ?_
      exact ⟨by rw [HDV.out]; rfl, HFI.out.1⟩
    | none =>
      obtain ⟨rfl, v2, hc2, ht2, ho2⟩ := hp2
      simp only at hO
      have hp2 := HZ.out.of hc2 ht2 ho2
      obtain ⟨w3, hw3⟩ : ∃ w3, w3 = w2.alloc (.cells #[.int .i64 0, .string ⟨#[]⟩, .string ⟨#[]⟩, .int .i64 0, .int .i64 0, .int .i64 0] 49) := ⟨_, rfl⟩
      have hb3 : Below w2.heap.size w2 w3 := by rw [hw3]; exact (Below.refl _ _).alloc (Nat.le_refl _) _
      obtain ⟨bx, hbx⟩ : ∃ bx, w2.heap.size = bx := ⟨_, rfl⟩
      have hvr : ¬ own v rb := fun e => by have := HH.out.con.row.lt rb e; have := HRB.out; omega
      have hr2 := (ht2.block rb (heap_lt HEZ.out) (fun e => by rcases e with e | e; omega; exact hvr e)).trans HEZ.out
      have hr3 := (hb3.block rb (heap_lt hr2)).trans hr2
      have hp3 := hp2.next hb3
      have HT3 := Lib.hid (((Heap.Touch.ofBelow HBZ.out).after ht2).after (Heap.Touch.ofBelow hb3))
      have HO3 := Lib.hid (show ∀ k, own v2 k → own v k ∨ rb < k from fun k hk => (ho2 k hk).imp id fun h => by have := heap_lt HEZ.out; omega)
      obtain ⟨n, hn⟩ : ∃ n, l1.length = n := ⟨_, rfl⟩
      rw [hn] at hal
      obtain ⟨va, vc, hv⟩ := hp3.con.row.slice
      simp only [hn] at hv
      subst hv
      have HBX := Lib.hid hbx; have HP3 := Lib.hid hp3; have HR3 := Lib.hid hr3; have HNL := Lib.hid hn
      have hnb : n ≤ 100000 := by omega
      obtain ⟨_, _, _, _, _, _, _, _, c8, _, _, _, c12, _⟩ := hp3.con.cells
      have hlt3 := heap_lt hp3.con.cell
      clear hc2 ht2 ho2 hp2 hb3 hbx hvr hr2 hr3 hp3 hn HAG hal
      rw [show delV Dl.zero = .agg #[.int .i64 0, .string ⟨#[]⟩, .string ⟨#[]⟩, .int .i64 0, .int .i64 0, .int .i64 0] from rfl]
      go_upto_region 4 with fail
      rw [← hw3, HBX.out]
      clear hw3
      unfold freshP at hO
      obtain ⟨Bp, hBp⟩ : ∃ Bp, decide (0 < t.pend ∧ t.pend ≤ (n : Int)) = Bp := ⟨_, rfl⟩
      have HBp := Lib.hid hBp
      have HO := Lib.hid hO
      clear hBp hO
      go_upto_region 6 with fail
      go_cut [46] from 28 to 46 (fun s46 wx => s46 = .bool Bp ∧ Hid (∃ q, wx = w3.drewN q))
      case first =>
        have hBp := HBp.out
        have hd3 : t.pend ≤ 0 ∨ (0 < t.pend ∧ (n : Int) < t.pend) ∨ (0 < t.pend ∧ t.pend ≤ n) := by omega
        rcases hd3 with hp1 | ⟨hp1, hp2⟩ | ⟨hp1, hp2⟩
        · have d1 : decide ((0 : Int) < t.pend) = false := decide_eq_false (by omega)
          obtain rfl : Bp = false := by rw [← hBp]; simp; omega
          clear hBp
          go_quiet (fail)
          go_wp2_with fail
          go_meet
          exact ⟨by simp, Lib.hid ⟨_, rfl⟩⟩
        · have d1 : decide ((0 : Int) < t.pend) = true := decide_eq_true hp1
          have d2 : decide (t.pend ≤ (n : Int)) = false := decide_eq_false (by omega)
          obtain rfl : Bp = false := by rw [← hBp]; simp; omega
          clear hBp
          go_quiet (fail)
          go_wp2_with fail
          go_meet
          exact ⟨by simp, Lib.hid ⟨_, rfl⟩⟩
        · have d1 : decide ((0 : Int) < t.pend) = true := decide_eq_true hp1
          have d2 : decide (t.pend ≤ (n : Int)) = true := decide_eq_true hp2
          obtain rfl : Bp = true := by rw [← hBp]; simp; omega
          clear hBp
          go_quiet (fail)
          go_wp2_with fail
          go_meet
          exact ⟨by simp, Lib.hid ⟨_, rfl⟩⟩
      case rest =>
      obtain ⟨rfl, hcq⟩ := hcut
      obtain ⟨q, hwq⟩ := hcq.out
      generalize wc = wb at *
      have hb4 : Below w3.heap.size w3 wb := by rw [hwq]; exact below_drewN (Below.refl _ _) q
      have HP4 := Lib.hid (HP3.out.next hb4)
      have HT4 := Lib.hid (HT3.out.after (Heap.Touch.ofBelow hb4))
      have HR4 := Lib.hid ((hb4.block rb (heap_lt HR3.out)).trans HR3.out)
      clear hcq hwq hb4 HP3 HT3 HR3 c8 c12 hlt3
      have hO := HO.out
      have hBp := HBp.out
      obtain ⟨r0, r1, r2, r3, r4, r5⟩ := sixC HR4.out
      have rf : ∀ j, wb.frozen? ⟨rb, j, none⟩ = false := fun j => frozen_of_row wb rb j _ _ HR4.out
      have hrl := heap_lt HR4.out
      cases Bp with
      | true =>
        rw [if_pos (by simp only [HNL.out]; exact of_decide_eq_true hBp)] at hO
        subst hO
        have HFI := Lib.hid (HPUT.out _ wb ⟨_, HP4.out.con, HT4.out, HO3.out, _, _, _, _, _, _, HR4.out⟩ (.int .i64 0) (.string ⟨#[]⟩) (.string ⟨#[]⟩) (.int .i64 0) (.int .i64 0) (.int .i64 0))
        clear hBp HO
        go_wp2_with fail
        refine bodyPost_ret (v := .tuple #[.agg #[.int .i64 0, .string ⟨#[]⟩, .string ⟨#[]⟩, .int .i64 0, .int .i64 0, .int .i64 0], .int .i64 11]) (res_del2 6 7 Tryd.results8 _ _ rb rfl rfl HFI.out.2) rfl ?_
        exact ⟨rfl, HFI.out.1⟩
      | false =>
        rw [if_neg (by simp only [HNL.out]; exact of_decide_eq_false hBp)] at hO
        obtain ⟨fo, hfo⟩ : ∃ fo, L.find? (want t c.place) = fo := ⟨_, rfl⟩
        have hpl := HK.out.place
        have hnw := fun w' (hb : Below wb.heap.size wb w') => next_want (HP4.out.next hb).st HML.out HT.out c.place (by omega)
        rw [hfo] at hnw
        simp only [hfo] at hO
        obtain ⟨sr, hsr⟩ : ∃ sr, seekR 0 fo = sr := ⟨_, rfl⟩
        rw [hsr] at hnw
        obtain ⟨s, hdd, d, hpp⟩ := parts sr.1
        unfold Sto.recV at hnw
        rw [hpp.s1, hpp.h1, hpp.d1] at hnw
        obtain ⟨rx, er⟩ := sr
        simp only at hnw hpp
        have HNW := Lib.hid hnw; have HFO := Lib.hid hfo; have HSR := Lib.hid hsr; have HPP := Lib.hid hpp; have HO2 := Lib.hid hO
        obtain ⟨_, c1, _, _, _, _, _, _, _, _, c10, _, _, _⟩ := HP4.out.con.cells
        simp only at c10
        have hlt4 := heap_lt HP4.out.con.cell
        clear hnw hfo hsr hpp hO HO hBp
        have hb4 : Below wb.heap.size wb ((wb.alloc (.cells #[.int .i64 0, .int .i64 0, .int .i64 0, .string ⟨#[]⟩, .string ⟨#[]⟩, .string ⟨#[]⟩] 42)).drew) := ((Below.refl _ _).alloc (Nat.le_refl _) _).drew
        have he4 : ((wb.alloc (.cells #[.int .i64 0, .int .i64 0, .int .i64 0, .string ⟨#[]⟩, .string ⟨#[]⟩, .string ⟨#[]⟩] 42)).drew).heap[wb.heap.size]? = some (.cells #[.int .i64 0, .int .i64 0, .int .i64 0, .string ⟨#[]⟩, .string ⟨#[]⟩, .string ⟨#[]⟩] 42 (0, 0)) := heap_alloc_new wb _
        have HB4 := Lib.hid hb4; have HE4 := Lib.hid he4
        clear hb4 he4
        go_upto_region 8 with fail
        go_cut [10, 11] from 49 to 61 (fun s10 s11 wx => ∃ bq, s10 = .pointer (some ⟨bq, 0, none⟩) ∧ s11 = .int .i64 (er : Nat) ∧ Hid (Below wb.heap.size wb wx ∧ wx.heap[bq]? = some (.cells #[.int .i64 rx.kind, .int .i64 rx.seq, .int .i64 rx.time, .string s, .string hdd, .string d] 42 (0, 0)) ∧ wb.heap.size ≤ bq))
        case first =>
          go_wp2_with fail
          go_region_held3 (fun w' => w'.cell? ⟨K, 1, none⟩ = some (.string ⟨t.filt.toArray⟩) ∧ w'.cell? ⟨K, 10, none⟩ = some (.int .i64 c.place))
            (first | (with_reducible exact ⟨c1, c10⟩) | (with_reducible exact ⟨z1, z10⟩) | (with_reducible assumption) | go_keep)
            ((go_at_call 20; first
              | ((refine (HNW.out _ HB4.out).mono ?_); rintro e w5 ⟨rfl, h5⟩; have hb5 : Below wb.heap.size wb w5 := HB4.out.trans (h5.mono HB4.out.size); obtain ⟨_, c1, _, _, _, _, _, _, _, _, c10, _, _, _⟩ := (HP4.out.next hb5).con.cells; simp only at c10; have hlt5 := heap_lt (HP4.out.next hb5).con.cell; have he5 := (h5.block wb.heap.size (heap_lt HE4.out)).trans HE4.out; obtain ⟨q0, q1, q2, q3, q4, q5⟩ := sixC he5; have qf : ∀ j, w5.frozen? ⟨wb.heap.size, j, none⟩ = false := (fun j => frozen_of_row w5 _ j _ _ he5); have hql := heap_lt he5; have z1 := (World.cell?_of_block (a := ⟨K, 1, none⟩) (heap_set6 w5 (show K ≠ wb.heap.size from Nat.ne_of_lt hlt4) (.int .i64 rx.kind) (.int .i64 rx.seq) (.int .i64 rx.time) (.string s) (.string hdd) (.string d))).trans c1; have z10 := (World.cell?_of_block (a := ⟨K, 10, none⟩) (heap_set6 w5 (show K ≠ wb.heap.size from Nat.ne_of_lt hlt4) (.int .i64 rx.kind) (.int .i64 rx.seq) (.int .i64 rx.time) (.string s) (.string hdd) (.string d))).trans c10; have HEND := Lib.hid (show Below wb.heap.size wb ((((((w5.setCell ⟨wb.heap.size, 0, none⟩ (.int .i64 rx.kind)).setCell ⟨wb.heap.size, 1, none⟩ (.int .i64 rx.seq)).setCell ⟨wb.heap.size, 2, none⟩ (.int .i64 rx.time)).setCell ⟨wb.heap.size, 3, none⟩ (.string s)).setCell ⟨wb.heap.size, 4, none⟩ (.string hdd)).setCell ⟨wb.heap.size, 5, none⟩ (.string d)) ∧ ((((((w5.setCell ⟨wb.heap.size, 0, none⟩ (.int .i64 rx.kind)).setCell ⟨wb.heap.size, 1, none⟩ (.int .i64 rx.seq)).setCell ⟨wb.heap.size, 2, none⟩ (.int .i64 rx.time)).setCell ⟨wb.heap.size, 3, none⟩ (.string s)).setCell ⟨wb.heap.size, 4, none⟩ (.string hdd)).setCell ⟨wb.heap.size, 5, none⟩ (.string d)).heap[wb.heap.size]? = some (.cells #[.int .i64 rx.kind, .int .i64 rx.seq, .int .i64 rx.time, .string s, .string hdd, .string d] 42 (0, 0)) ∧ wb.heap.size ≤ wb.heap.size from ⟨Sto.below6 hb5 (Nat.le_refl _) _ _ _ _ _ _, Sto.set6 _ _ _ _ _ _ he5, Nat.le_refl _⟩); clear h5 hb5 he5)
              | ((refine (HNW.out _ (Below.refl _ _).drew).mono ?_); rintro e w5 ⟨rfl, h5⟩; have hb5 : Below wb.heap.size wb w5 := (Below.refl _ _).drew.trans h5; obtain ⟨_, c1, _, _, _, _, _, _, _, _, c10, _, _, _⟩ := (HP4.out.next hb5).con.cells; simp only at c10; have hlt5 := heap_lt (HP4.out.next hb5).con.cell; have HEND := Lib.hid (show Below wb.heap.size wb (w5.alloc (.cells #[.int .i64 rx.kind, .int .i64 rx.seq, .int .i64 rx.time, .string s, .string hdd, .string d] 42)) ∧ (w5.alloc (.cells #[.int .i64 rx.kind, .int .i64 rx.seq, .int .i64 rx.time, .string s, .string hdd, .string d] 42)).heap[w5.heap.size]? = some (.cells #[.int .i64 rx.kind, .int .i64 rx.seq, .int .i64 rx.time, .string s, .string hdd, .string d] 42 (0, 0)) ∧ wb.heap.size ≤ w5.heap.size from ⟨hb5.trans ((Below.refl _ _).alloc hb5.size _), heap_alloc_new w5 _, hb5.size⟩); clear h5 hb5)))
          all_goals
            go_wp2_with fail
            go_meet
            exact ⟨_, rfl, rfl, HEND⟩
        case rest =>
        obtain ⟨bq, rfl, rfl, hcc⟩ := hcut
        obtain ⟨hb5, he5, hbq⟩ := hcc.out
        clear hcc hrl rf r0 r1 r2 r3 r4 r5 c1 c10 hlt4
        have HP5 := Lib.hid (HP4.out.next hb5)
        have HT5 := Lib.hid (HT4.out.after (Heap.Touch.ofBelow hb5))
        have HR5 := Lib.hid ((hb5.block rb (heap_lt HR4.out)).trans HR4.out)
        have HE5 := Lib.hid he5
        have hx := heap_lt HR4.out
        have HX := Lib.hid (show rb < bq ∧ K < bq ∧ ∀ k, own (.slice va n vc) k → k < bq from ⟨by omega, by omega, fun k hk => by have := HP4.out.con.row.lt k hk; omega⟩)
        clear hb5 he5 hbq hx HP4 HT4 HR4 HB4 HE4 HNW
        obtain ⟨r0, r1, r2, r3, r4, r5⟩ := sixC HR5.out
        have rf : ∀ j, wc.frozen? ⟨rb, j, none⟩ = false := fun j => frozen_of_row wc rb j _ _ HR5.out
        have hrl := heap_lt HR5.out
        by_cases her : er = 0
        · subst her
          obtain rfl : fo = some rx := by
            cases fo with
            | none => have := HSR.out; rw [show seekR 0 (none : Option Rc) = (Rc.zero, 4) from rfl] at this; simp only [Prod.mk.injEq] at this; omega
            | some x =>
              have := HSR.out
              rw [show seekR 0 (some x) = (x, 0) from rfl] at this
              simp only [Prod.mk.injEq] at this
              rw [this.1]
          have hrm := List.mem_of_find?_eq_some HFO.out
          have hxs : 1 ≤ rx.seq ∧ rx.seq ≤ far := by
            obtain ⟨I, hI⟩ := HP5.out.st.right
            exact seq_pos hI rx hrm
          have hws : IntKind.i64.wrap (rx.seq + 1) = rx.seq + 1 := IntWalk.i64_in _ (by omega)
          have HXS := Lib.hid hxs
          have hO := HO2.out
          simp only at hO
          clear hrm HO2
          obtain ⟨_, _, _, _, c4, _, _, _, _, _, _, _, _, _⟩ := HP5.out.con.cells
          have hlt5 := heap_lt HP5.out.con.cell
          by_cases hak : t.ack = 0
          · rw [if_pos hak] at hO
            have HOO := Lib.hid hO.symm
            rw [hak] at c4
            clear hO hak
            have hpy := HP5.out.con.setPlace (rx.seq + 1)
            have hpp2 := HP5.out.of hpy.1 hpy.2 fun k hk => .inl hk
            obtain ⟨wy, hwy⟩ : ∃ wy, wy = wc.setCell ⟨K, 10, none⟩ (.int .i64 (rx.seq + 1)) := ⟨_, rfl⟩
            rw [← hwy] at hpp2 hpy
            have hty := HT5.out.after ((touch_K wc K 10 (.int .i64 (rx.seq + 1))).mono (G := fun k => k = K ∨ own v k) fun _ _ e => Or.inl e)
            rw [← hwy] at hty
            have hry := (hpy.2.block rb (heap_lt HR5.out) (fun e => by
              rcases e with e | e
              · omega
              · rcases HO3.out rb e with e | e
                · have := HH.out.con.row.lt rb e; have := HRB.out; omega
                · omega)).trans HR5.out
            have hey : wy.heap[bq]? = _ := (by rw [hwy]; exact heap_setCell_other _ _ _ _ (show bq ≠ K by have := HX.out.2.1; omega) : wy.heap[bq]? = wc.heap[bq]?).trans HE5.out
            have hfw := HXS.out
            have htl := told_c hpp2 (by show 1 ≤ rx.seq + 1 ∧ rx.seq + 1 ≤ far + 1; omega) (by have := HK.out.count; show 0 ≤ c.count ∧ c.count ≤ _; omega) HML.out HT.out rx 1
            unfold Sto.recV at htl
            rw [HPP.out.s1, HPP.out.h1, HPP.out.d1] at htl
            obtain ⟨_, _, _, _, _, _, _, _, _, _, c10, _, _, cf⟩ := HP5.out.con.cells
            have hlw := heap_lt HP5.out.con.cell
            obtain ⟨q0, q1, q2, q3, q4, q5⟩ := sixC HE5.out
            obtain ⟨dl, hdl⟩ : ∃ dl, (tellP t L ⟨rx.seq + 1, c.count, l1⟩ rx 1).2 = dl := ⟨_, rfl⟩
            have HDL := Lib.hid hdl
            obtain ⟨ds, hds⟩ : ∃ ds : ByteArray, (⟨dl.subj.toArray⟩ : ByteArray) = ds := ⟨_, rfl⟩
            obtain ⟨dd, hddd⟩ : ∃ dd : ByteArray, (⟨dl.data.toArray⟩ : ByteArray) = dd := ⟨_, rfl⟩
            have HDV := Lib.hid (show delV dl = .agg #[.int .i64 dl.seq, .string ds, .string dd, .int .i64 dl.count, .int .i64 dl.nth, .int .i64 dl.left] by unfold delV; rw [hds, hddd])
            have HTL := Lib.hid htl; have HTY := Lib.hid hty; have HRY := Lib.hid hry; have HEY := Lib.hid hey
            clear hpy hpp2 hty hry hey htl hdl hds hddd hfw r0 r1 r2 r3 r4 r5 rf hrl
            go_upto_region 14 with fail
            rw [← hwy]
            clear hwy c10 cf hlw q0 q1 q2 q3 q4 q5
            obtain ⟨q0, q1, q2, q3, q4, q5⟩ := sixC HEY.out
            go_wp2_with fail
            refine HTL.out.mono ?_
            rintro e w8 ⟨he8, hc8, t8⟩
            rw [HDL.out, HDV.out] at he8
            subst he8
            have hr8 := (t8.block rb (heap_lt HRY.out) (fun e => by omega)).trans HRY.out
            obtain ⟨r0, r1, r2, r3, r4, r5⟩ := sixC hr8
            have rf : ∀ j, w8.frozen? ⟨rb, j, none⟩ = false := fun j => frozen_of_row w8 rb j _ _ hr8
            have hrl := heap_lt hr8
            have HFI := Lib.hid (HPUT.out ⟨rx.seq + 1, c.count + 1, l1⟩ w8 ⟨_, hc8, HTY.out.after (t8.mono fun _ _ e => Or.inl e), HO3.out, _, _, _, _, _, _, hr8⟩ (.int .i64 dl.seq) (.string ds) (.string dd) (.int .i64 dl.count) (.int .i64 dl.nth) (.int .i64 dl.left))
            clear hc8 t8 hr8 HTL q0 q1 q2 q3 q4 q5
            go_wp2_with fail
            refine bodyPost_ret (v := .tuple #[.agg #[.int .i64 dl.seq, .string ds, .string dd, .int .i64 dl.count, .int .i64 dl.nth, .int .i64 dl.left], .int .i64 0]) (res_del2 6 7 Tryd.results8 _ _ rb rfl rfl HFI.out.2) rfl ?_
            rw [HOO.out]
            exact ⟨by rw [← HDV.out, ← HDL.out]; rfl, HFI.out.1⟩
          · rw [if_neg hak] at hO
            have hak0 : (t.ack != 0) = true := by simpa using hak
            obtain ⟨wt, hwt⟩ : ∃ wt, waitT t 1 = wt := ⟨_, rfl⟩
            have hwr := wait_range HT.out 1
            rw [hwt] at hwr hO
            have HOO := Lib.hid hO.symm
            have hwd : IntKind.i64.wrap (now + wt) = now + wt := IntWalk.i64_in _ (by omega)
            have hbk : t.back.length ≤ 1048576 := by have := (errT_facts HT.out).2.2.1; omega
            have hwc := fun w' (hb : Below wc.heap.size wc w') => wait_c (HP5.out.next hb).con.back hbk 1
            rw [hwt] at hwc
            unfold takerV at hwc
            have HWC := Lib.hid hwc
            obtain ⟨i0, hi, hz0, hz1, hz2⟩ := info_parts Del.info_el
            have HAPD := Lib.hid (fun w6 hb6 => append_pd (q := rx.seq) (d := now + wt) (w6 := w6) HP5.out HNL.out HT5.out HO3.out HR5.out HE5.out HRB.out hKr (fun e => by have := HH.out.con.row.lt rb e; have := HRB.out; omega) HX.out.2.1 HX.out.2.2 hb6)
            clear hO hak hwt hwc hbk
            clear c4
            obtain ⟨c0, c1, c2, c3, c4, c5, c6, c7, c8, c9, _, _, c12, cf⟩ := HP5.out.con.cells
            obtain ⟨_, q1, _, _, _, _⟩ := sixC HE5.out
            go_upto_region 12 with fail
            go_cut [78] from 72 to 90 (fun s78 wx => s78 = .int .i64 rx.seq ∧ Hid (∃ v3, PairAt W F D B L last K t vb v3 ⟨c.place, c.count, l1 ++ [⟨rx.seq, 1, now + wt⟩]⟩ wx ∧ Heap.Touch (fun k => k = K ∨ own v k) w wx ∧ (∀ k, own v3 k → own v k ∨ rb < k) ∧ wx.heap[rb]? = some (.cells #[.int .i64 0, .string ⟨#[]⟩, .string ⟨#[]⟩, .int .i64 0, .int .i64 0, .int .i64 0] 49 (0, 0)) ∧ wx.heap[bq]? = some (.cells #[.int .i64 rx.kind, .int .i64 rx.seq, .int .i64 rx.time, .string s, .string hdd, .string d] 42 (0, 0))))
            case first =>
              go_region_law (first
                | (refine Heap.step_append_row _ rfl (.tmp 76) (.tmp 87) 61 rfl 70 i0 _ 3 24 Tryd.underlying61 hi hz0 hz1 hz2 rfl (by decide) (.slice va n vc) n (pdsV l1) (by simp [Act.eval]) HAF.out.2.1 ⟨w6.heap.size, 0, none⟩ 1 1 [.int .i64 rx.seq, .int .i64 1, .int .i64 (now + wt)] (by simp [Act.eval]) rfl HAF.out.2.2.1 (by simp [Value.oneCell']) (by unfold maxLen; omega) (by omega) ?_
                   intro v3 w7 r7 t7 o7
                   obtain ⟨hap, k12, kf7, k7⟩ := HAF.out.2.2.2 v3 w7 r7 t7 o7
                   obtain ⟨a3, cc3, rfl⟩ := r7.slice
                   have HAP := Lib.hid hap
                   clear hap r7 t7 o7)
                | (go_simp; go_at_call 21; (refine (HWC.out _ (Below.refl _ _).drew).mono ?_); rintro e w6 ⟨rfl, h6⟩; have hb6 : Below wc.heap.size wc w6 := (Below.refl _ _).drew.trans h6; obtain ⟨c0, c1, c2, c3, c4, c5, c6, c7, c8, c9, _, _, c12, cf⟩ := (HP5.out.next hb6).con.cells; obtain ⟨_, q1, _, _, _, _⟩ := sixC ((hb6.block bq (heap_lt HE5.out)).trans HE5.out); have haf := HAPD.out w6 hb6; have ca12 := haf.1.con.cells.2.2.2.2.2.2.2.2.2.2.2.2.1; have HAF := Lib.hid haf; clear h6 hb6 haf))
              all_goals
                go_wp2_with fail
                go_meet
                exact ⟨rfl, HAP⟩
            case rest =>
            obtain ⟨rfl, hcc⟩ := hcut
            obtain ⟨v3, hp6, ht6, ho6, hr6, he6⟩ := hcc.out
            clear hcc c0 c1 c2 c3 c4 c5 c6 c7 c8 c9 c12 cf q1 hlt5 HWC HAPD hi hz0 hz1 hz2 r0 r1 r2 r3 r4 r5 rf hrl HP5 HT5 HR5 HE5 HO3
            generalize wc = wp at *
            have HPP5 := Lib.hid hp6; have HTT5 := Lib.hid ht6; have HOO3 := Lib.hid ho6; have HRR5 := Lib.hid hr6; have HEE5 := Lib.hid he6
            clear hp6 ht6 ho6 hr6 he6
            obtain ⟨r0, r1, r2, r3, r4, r5⟩ := sixC HRR5.out
            have rf : ∀ j, wp.frozen? ⟨rb, j, none⟩ = false := fun j => frozen_of_row wp rb j _ _ HRR5.out
            have hrl := heap_lt HRR5.out
            have hpy := HPP5.out.con.setPlace (rx.seq + 1)
            have hpp2 := HPP5.out.of hpy.1 hpy.2 fun k hk => .inl hk
            obtain ⟨wy, hwy⟩ : ∃ wy, wy = wp.setCell ⟨K, 10, none⟩ (.int .i64 (rx.seq + 1)) := ⟨_, rfl⟩
            rw [← hwy] at hpp2 hpy
            have hty := HTT5.out.after ((touch_K wp K 10 (.int .i64 (rx.seq + 1))).mono (G := fun k => k = K ∨ own v k) fun _ _ e => Or.inl e)
            rw [← hwy] at hty
            have hry := (hpy.2.block rb (heap_lt HRR5.out) (fun e => by
              rcases e with e | e
              · omega
              · rcases HOO3.out rb e with e | e
                · have := HH.out.con.row.lt rb e; have := HRB.out; omega
                · omega)).trans HRR5.out
            have hey : wy.heap[bq]? = _ := (by rw [hwy]; exact heap_setCell_other _ _ _ _ (show bq ≠ K by have := HX.out.2.1; omega) : wy.heap[bq]? = wp.heap[bq]?).trans HEE5.out
            have hfw := HXS.out
            have htl := told_c hpp2 (by show 1 ≤ rx.seq + 1 ∧ rx.seq + 1 ≤ far + 1; omega) (by have := HK.out.count; show 0 ≤ c.count ∧ c.count ≤ _; omega) HML.out HT.out rx 1
            unfold Sto.recV at htl
            rw [HPP.out.s1, HPP.out.h1, HPP.out.d1] at htl
            obtain ⟨_, _, _, _, _, _, _, _, _, _, c10, _, _, cf⟩ := HPP5.out.con.cells
            have hlw := heap_lt HPP5.out.con.cell
            obtain ⟨q0, q1, q2, q3, q4, q5⟩ := sixC HEE5.out
            obtain ⟨dl, hdl⟩ : ∃ dl, (tellP t L ⟨rx.seq + 1, c.count, (l1 ++ [⟨rx.seq, 1, now + wt⟩])⟩ rx 1).2 = dl := ⟨_, rfl⟩
            have HDL := Lib.hid hdl
            obtain ⟨ds, hds⟩ : ∃ ds : ByteArray, (⟨dl.subj.toArray⟩ : ByteArray) = ds := ⟨_, rfl⟩
            obtain ⟨dd, hddd⟩ : ∃ dd : ByteArray, (⟨dl.data.toArray⟩ : ByteArray) = dd := ⟨_, rfl⟩
            have HDV := Lib.hid (show delV dl = .agg #[.int .i64 dl.seq, .string ds, .string dd, .int .i64 dl.count, .int .i64 dl.nth, .int .i64 dl.left] by unfold delV; rw [hds, hddd])
            have HTL := Lib.hid htl; have HTY := Lib.hid hty; have HRY := Lib.hid hry; have HEY := Lib.hid hey
            clear hpy hpp2 hty hry hey htl hdl hds hddd hfw r0 r1 r2 r3 r4 r5 rf hrl
            go_upto_region 14 with fail
            rw [← hwy]
            clear hwy c10 cf hlw q0 q1 q2 q3 q4 q5
            obtain ⟨q0, q1, q2, q3, q4, q5⟩ := sixC HEY.out
            go_wp2_with fail
            refine HTL.out.mono ?_
            rintro e w8 ⟨he8, hc8, t8⟩
            rw [HDL.out, HDV.out] at he8
            subst he8
            have hr8 := (t8.block rb (heap_lt HRY.out) (fun e => by omega)).trans HRY.out
            obtain ⟨r0, r1, r2, r3, r4, r5⟩ := sixC hr8
            have rf : ∀ j, w8.frozen? ⟨rb, j, none⟩ = false := fun j => frozen_of_row w8 rb j _ _ hr8
            have hrl := heap_lt hr8
            have HFI := Lib.hid (HPUT.out ⟨rx.seq + 1, c.count + 1, (l1 ++ [⟨rx.seq, 1, now + wt⟩])⟩ w8 ⟨_, hc8, HTY.out.after (t8.mono fun _ _ e => Or.inl e), HOO3.out, _, _, _, _, _, _, hr8⟩ (.int .i64 dl.seq) (.string ds) (.string dd) (.int .i64 dl.count) (.int .i64 dl.nth) (.int .i64 dl.left))
            clear hc8 t8 hr8 HTL q0 q1 q2 q3 q4 q5
            go_wp2_with fail
            refine bodyPost_ret (v := .tuple #[.agg #[.int .i64 dl.seq, .string ds, .string dd, .int .i64 dl.count, .int .i64 dl.nth, .int .i64 dl.left], .int .i64 0]) (res_del2 6 7 Tryd.results8 _ _ rb rfl rfl HFI.out.2) rfl ?_
            rw [HOO.out]
            exact ⟨by rw [← HDV.out, ← HDL.out]; rfl, HFI.out.1⟩
        · have he0 : ((er : Int) != 0) = true := by simpa using her
          obtain rfl : fo = none := by
            cases fo with
            | none => rfl
            | some x => have := HSR.out; rw [show seekR 0 (some x) = (x, 0) from rfl] at this; simp only [Prod.mk.injEq] at this; exact absurd this.2.symm her
          have her4 : er = 4 := by have := HSR.out; rw [show seekR 0 (none : Option Rc) = (Rc.zero, 4) from rfl] at this; simp only [Prod.mk.injEq] at this; exact this.2.symm
          have hO := HO2.out
          simp only at hO
          subst hO
          have HFI := Lib.hid (HPUT.out _ wc ⟨_, HP5.out.con, HT5.out, HO3.out, _, _, _, _, _, _, HR5.out⟩ (.int .i64 0) (.string ⟨#[]⟩) (.string ⟨#[]⟩) (.int .i64 0) (.int .i64 0) (.int .i64 0))
          have HE4 := Lib.hid her4
          clear her her4 HO2
          go_wp2_with fail
          refine bodyPost_ret (v := .tuple #[.agg #[.int .i64 0, .string ⟨#[]⟩, .string ⟨#[]⟩, .int .i64 0, .int .i64 0, .int .i64 0], .int .i64 (er : Nat)]) (res_del2 6 7 Tryd.results8 _ _ rb rfl rfl HFI.out.2) rfl ?_
          exact ⟨by rw [HE4.out]; rfl, HFI.out.1⟩
end
end Go.Proofs.YtapmhpnkpjgefaaDoor.Con
