/- Parts of the proof, joined: The law StorePurges, walked: it returns true.; ConsumerRules: what lies where; the plain facts that the law wants beside XConRulesP.; The law StoreSeeks, walked: it returns true.; (*Consumer).Info, walked. -/
import Derived.Test.YtapmhpnkpjgefaaDoorConsumerRulesUptoM3
import Derived.Test.YtapmhpnkpjgefaaDoorConsumerRulesUptoM15
import Derived.Test.YtapmhpnkpjgefaaDoorConsumerRulesUptoM22
import Derived.Test.YtapmhpnkpjgefaaDoorConsumerRulesUptoM26
import Derived.Test.YtapmhpnkpjgefaaDoorConsumerRulesUptoM27
import Derived.Test.YtapmhpnkpjgefaaDoorConsumerRulesUptoM36
namespace Go.Proofs.YtapmhpnkpjgefaaDoor.Sto
open Go.RowKit Heap
open Subj (Tok ML pieces takes StrsAt isB matchR)
open Rec (Rc recErr far)
open Idx (Ents ptrV)

theorem isB_eq {f s : List UInt8} (h1 : Subj.err true f = 0) (h2 : Subj.err false s = 0) : isB (matchR f s) = takes (pieces f) (pieces s) := by
  unfold isB matchR
  rw [if_neg (by simp [h1]), if_neg (by simp [h2])]
  simp

/-- Records laid side by side by a literal. -/
theorem recs_new (w : World) (l : List Rc) : RecsAt (w.alloc (.cells (recsV l).toArray 42)) (.slice (some ⟨w.heap.size, 0, none⟩) l.length l.length) l := by
  refine ⟨_, l.length, rfl, fun _ => ⟨w.heap.size, 0, rfl, fun i p hp => ?_⟩⟩
  have e : ∀ j, j < 6 → (w.alloc (.cells (recsV l).toArray 42)).cell? ⟨w.heap.size, 0 + i * 6 + j, none⟩ = (recC p)[j]? := fun j hj => by
    rw [cell_of_row _ w.heap.size (0 + i * 6 + j) _ _ _ (heap_alloc_new w _), List.getElem?_toArray, Nat.zero_add, recsV_at l i p hp j hj]
  exact ⟨e 0 (by omega), e 1 (by omega), e 2 (by omega), e 3 (by omega), e 4 (by omega), e 5 (by omega)⟩

theorem fits_note (q : Int) : Fits (noteR q) := ⟨by show 3 ≤ 1048576; decide, by show 0 ≤ 1048576; decide, by show 1 ≤ 1048576; decide⟩
/-- What has been gathered so far. -/
def OutR (w wr : World) (o : Value) (K : List Rc) : Prop := Row wr 42 6 o K.length (recsV K) ∧ ∀ k, own o k → w.heap.size ≤ k

theorem OutR.next {w wr w' : World} {o : Value} {K : List Rc} (h : OutR w wr o K) (hb : Below wr.heap.size wr w') : OutR w w' o K := ⟨h.1.kept fun k _ hk => hb.block k hk, h.2⟩

section
variable {w : World}
end
end Go.Proofs.YtapmhpnkpjgefaaDoor.Sto

namespace Go.Proofs.YtapmhpnkpjgefaaDoor.Con
open Go.RowKit Go.Maps Heap
open Subj (Tok TakerP ML Ints errT errT_facts isB matchR takes pieces)
open Sto (StoreAt NextSt Right getQ tk after tryD leftS lastS)
open Rec (Rc far recErr)

/-! ### plain facts -/

theorem after_more {L : List Rc} {last : Int} (_hL : ∀ r ∈ L, r.seq ≤ last) (r : Rc) : last ≤ (after L last r).2 ∧ ∀ x ∈ (after L last r).1, x ∈ L ∨ last < x.seq := by
  unfold after
  split
  · rename_i h0
    unfold tryD at h0
    simp only
    by_cases h1 : recErr r ≠ 0
    · rw [if_pos h1] at h0; exact absurd h0 h1
    · rw [if_neg h1] at h0
      by_cases hk : r.kind = 1
      · rw [if_pos hk] at h0
        have hlt : last < r.seq := by
          by_cases hc : r.seq ≤ last
          · rw [if_pos hc] at h0; cases h0
          · omega
        unfold lastS leftS
        rw [if_pos hk, if_pos hk]
        refine ⟨by omega, fun x hx => ?_⟩
        rcases List.mem_append.1 hx with h | h
        · exact .inl h
        · simp only [List.mem_singleton] at h; subst h; exact .inr hlt
      · unfold lastS leftS
        rw [if_neg hk, if_neg hk]
        refine ⟨by split <;> omega, fun x hx => .inl ?_⟩
        split at hx
        · exact (List.mem_filter.1 hx).1
        · split at hx
          · exact (List.mem_filter.1 hx).1
          · exact hx
  · exact ⟨Int.le_refl _, fun x hx => .inl hx⟩

theorem next_now {t : TakerP} {L : List Rc} {now : Int} {c : Cn} (h : (nextP t L now c).2.2 = 0) : 0 ≤ now ∧ now ≤ far := by
  unfold nextP at h
  by_cases hc : now < 0 ∨ far < now
  · rw [if_pos hc] at h; cases h
  · omega

theorem answer_in {t : TakerP} {now seq sort n : Int} {c : Cn} (h : (answerP t now seq sort n c).2 = 0) : (0 ≤ now ∧ now ≤ far) ∧ (1 ≤ sort ∧ sort ≤ 4) ∧ 0 ≤ n ∧ n ≤ 100000 := by
  unfold answerP at h
  by_cases hc : now < 0 ∨ far < now ∨ sort < 1 ∨ 4 < sort ∨ n < 0 ∨ mostN sort < n
  · rw [if_pos hc] at h; cases h
  · have : mostN sort ≤ 100000 := by unfold mostN; split <;> omega
    omega

theorem ansW_nth (t : TakerP) (now seq sort n : Int) (W : Wt) : (ansW t now seq sort n W).nth = W.nth := by
  unfold ansW
  repeat (first | rfl | split)

theorem Rel.zero {t : TakerP} {L : List Rc} {last : Int} (hp : 1 ≤ (newP t L last).place) : Rel t L last (newP t L last) Wt.zero :=
  ⟨fun p hp => (by cases hp), fun q _ => ⟨rfl, rfl⟩, by show (0 : Int) < _; omega, rfl, fun h => absurd rfl h, fun p hp => (by cases hp), fun q => Int.le_refl _⟩

theorem few_zero {t : TakerP} {L : List Rc} {last : Int} : Few t (newP t L last) := fun h => by show ((0 : Nat) : Int) ≤ _; omega

/-- What Told says, in the words that 'delivered' wants. -/
theorem told_facts {t : TakerP} {L : List Rc} {last now : Int} {I : Idx.Ents} {d : Dl} {W : Wt} (h : Told t L now d W) (hR : Right L last I) (ht : errT t = 0) : isB (matchR t.filt d.subj) = true ∧ d.subj.length ≤ 1048576 ∧ 0 ≤ d.seq ∧ d.seq ≤ far := by
  obtain ⟨x, hg, hs, _⟩ := h.there
  obtain ⟨hx, hxs⟩ := getQ_some hg
  have hgp := hR.good x hx
  have hpg := Sto.good_parts hgp.1 hgp.2
  have hq := seq_pos hR x hx
  refine ⟨?_, ?_, by rw [← hxs]; omega, by rw [← hxs]; exact hq.2⟩
  · rw [← hs]
    rw [Sto.isB_eq (errT_facts ht).2.1 hpg.1, hs]
    exact h.takes
  · rw [← hs]
    have := hpg.2.1
    omega

/-! ### the watch made -/

theorem WAt.made (w : World) : WAt (w.heap.size + 3) w.heap.size (w.heap.size + 1) (w.heap.size + 2) 0 0 Wt.zero ((((w.alloc (.map #[] 0)).alloc (.map #[] 0)).alloc (.map #[] 0)).alloc (.cells #[.map (some w.heap.size), .map (some (w.heap.size + 1)), .map (some (w.heap.size + 2)), .int .i64 0, .int .i64 0] 38)) := by
  have s1 : (w.alloc (.map #[] 0)).heap.size = w.heap.size + 1 := by simp
  have s2 : ((w.alloc (.map #[] 0)).alloc (.map #[] 0)).heap.size = w.heap.size + 2 := by simp
  have s3 : (((w.alloc (.map #[] 0)).alloc (.map #[] 0)).alloc (.map #[] 0)).heap.size = w.heap.size + 3 := by simp
  have m1 := MapI.made w
  have m2 := MapI.made (w.alloc (.map #[] 0))
  have m3 := MapB.made ((w.alloc (.map #[] 0)).alloc (.map #[] 0))
  rw [s1] at m2
  rw [s2] at m3
  refine ⟨?_, ⟨_, m1.blk ?_⟩, m2.blk ?_, m3.blk ?_, by omega, by omega, by omega⟩
  · rw [← s3]; exact heap_alloc_new _ _
  · rw [Below.heap_alloc _ _ _ (by rw [s3]; omega), Below.heap_alloc _ _ _ (by rw [s2]; omega), Below.heap_alloc _ _ _ (by rw [s1]; omega)]
  · rw [Below.heap_alloc _ _ _ (by rw [s3]; omega), Below.heap_alloc _ _ _ (by rw [s2]; omega)]
  · rw [Below.heap_alloc _ _ _ (by rw [s3]; omega)]

/-! ### all in memory -/

structure RulM (w0 : World) (D K B md mn mo Bs N n : Nat) (t : TakerP) (vb3 : Value) (c : Cn) (L : List Rc) (last : Int) (W : Wt) (w : World) : Prop where
  pair : ∃ F v B', B' ≤ Bs ∧ PairAt w0 F D B' L last K t vb3 v c w ∧ ∀ k, OwnW B md mn mo k → ¬ F k ∧ ¬ own v k
  wat : WAt B md mn mo N n W w
  apart : ∀ k, OwnW B md mn mo k → w0.heap.size ≤ k ∧ k ≠ K ∧ ¬ own vb3 k

section
variable {w0 w w1 : World} {D K B md mn mo Bs N n : Nat} {t : TakerP} {vb3 : Value} {c c' : Cn} {L L' : List Rc} {last last' : Int} {W W' : Wt}

theorem WAt.lt (h : WAt B md mn mo N n W w) : ∀ k, OwnW B md mn mo k → k < w.heap.size := by
  obtain ⟨g, hg⟩ := h.due
  rintro k (rfl | rfl | rfl | rfl)
  · exact heap_lt h.cells
  · exact hg.lt
  · exact h.nth.lt
  · exact h.done.lt

theorem RulM.below (h : RulM w0 D K B md mn mo Bs N n t vb3 c L last W w) : Below w0.heap.size w0 w := by
  obtain ⟨F, v, B', _, hp, _⟩ := h.pair
  exact hp.below

theorem RulM.next (h : RulM w0 D K B md mn mo Bs N n t vb3 c L last W w) (hb : Below w.heap.size w w1) : RulM w0 D K B md mn mo Bs N n t vb3 c L last W w1 := by
  obtain ⟨F, v, B', h1, hp, h2⟩ := h.pair
  exact ⟨⟨F, v, B', h1, hp.next hb, h2⟩, h.wat.next hb, h.apart⟩

theorem RulM.more {Bs' N' n' : Nat} (h : RulM w0 D K B md mn mo Bs N n t vb3 c L last W w) (hB : Bs ≤ Bs') (hN : N ≤ N') (hn : n ≤ n') : RulM w0 D K B md mn mo Bs' N' n' t vb3 c L last W w := by
  obtain ⟨F, v, B', h1, hp, h2⟩ := h.pair
  exact ⟨⟨F, v, B', Nat.le_trans h1 hB, hp, h2⟩, h.wat.more hN hn, h.apart⟩

/-- The consumer is turned. -/
theorem RulM.con {F : Nat → Prop} {v : Value} {B' : Nat} (h : RulM w0 D K B md mn mo Bs N n t vb3 c L last W w) (h1 : B' ≤ Bs) (hp : PairAt w0 F D B' L last K t vb3 v c w) (h2 : ∀ k, OwnW B md mn mo k → ¬ F k ∧ ¬ own v k)
    (hn : NextC tc tp w0 K t vb3 v w c' w1) : RulM w0 D K B md mn mo Bs N n t vb3 c' L last W w1 := by
  obtain ⟨v', hp', ho⟩ := hp.turn hn
  obtain ⟨_, _, ht, _⟩ := hn
  refine ⟨⟨F, v', B', h1, hp', fun k hk => ⟨(h2 k hk).1, fun e => ?_⟩⟩, h.wat.touch ht fun k hk e => ?_, h.apart⟩
  · rcases ho k e with e | e
    · exact (h2 k hk).2 e
    · have := h.wat.lt k hk; omega
  · rcases e with e | e
    · exact (h.apart k hk).2.1 e
    · exact (h2 k hk).2 e

/-- The store is turned. -/
theorem RulM.store {F : Nat → Prop} {v : Value} {B' B2 : Nat} (h : RulM w0 D K B md mn mo Bs N n t vb3 c L last W w) (h1 : B2 ≤ Bs) (hp : PairAt w0 F D B' L last K t vb3 v c w) (h2 : ∀ k, OwnW B md mn mo k → ¬ F k ∧ ¬ own v k)
    (hn : NextSt w0 F D B2 w L' last' w1) : RulM w0 D K B md mn mo Bs N n t vb3 c L' last' W w1 := by
  obtain ⟨F', hp', ho⟩ := hp.store hn
  refine ⟨⟨F', v, B2, h1, hp', fun k hk => ⟨fun e => ?_, (h2 k hk).2⟩⟩, h.wat.touch hn.2 fun k hk e => (h2 k hk).1 e, h.apart⟩
  rcases ho k e with e | e
  · exact (h2 k hk).1 e
  · have := h.wat.lt k hk; omega

/-- The watch is turned. -/
theorem RulM.watch {N' n' : Nat} (h : RulM w0 D K B md mn mo Bs N n t vb3 c L last W w) (hw : WAt B md mn mo N' n' W' w1) (ht : Heap.Touch (OwnW B md mn mo) w w1) : RulM w0 D K B md mn mo Bs N' n' t vb3 c L last W' w1 := by
  obtain ⟨F, v, B', h1, hp, h2⟩ := h.pair
  have hb := hp.below.trans (ht.below hp.below.size fun k hk => (h.apart k hk).1)
  refine ⟨⟨F, v, B', h1, ⟨hp.st.kept hb ht.size (ht.same fun k hk e => (h2 k e).1 hk), hp.con.touch ht (fun k hk => (h.apart k hk).1) (fun e => (h.apart K e).2.1 rfl) (fun k hk e => (h2 k e).2 hk) (fun k hk e => (h.apart k e).2.2 hk), hp.fK, hp.fv, hp.fb⟩, h2⟩, hw, h.apart⟩
end
end Go.Proofs.YtapmhpnkpjgefaaDoor.Con

namespace Go.Proofs.YtapmhpnkpjgefaaDoor.Sto
open Go.RowKit Heap
open Subj (Tok ML pieces takes StrsAt isB matchR)
open Rec (Rc recErr far)
open Idx (Ents ptrV mem_take_get mem_drop_get)

section
variable {w : World}
end
end Go.Proofs.YtapmhpnkpjgefaaDoor.Sto

namespace Go.Proofs.YtapmhpnkpjgefaaDoor.Con
open Go.RowKit Heap
open Subj (Tok TakerP ML errT errT_facts)
open Sto (fourS set4)
open Rec (Rc far)

def infoV (c : Cn) : Value := .agg #[.int .i64 (floorP c), .int .i64 (c.place - 1), .int .i64 c.count, .int .i64 (c.l.length : Nat)]

theorem res_info {fn : Func} (hf : fn.results = #[.cell 2 46]) (tmps : Array Value) (w : World) (R : Nat) {a0 a1 a2 a3 : Value}
    (h2 : tmps.getD 2 undef = .pointer (some ⟨R, 0, none⟩)) (hR : w.heap[R]? = some (.cells #[a0, a1, a2, a3] 46 (0, 0))) :
    (results fn tmps).run Tryd.prog w = .ok (.agg #[a0, a1, a2, a3]) w := by
  obtain ⟨z0, z1, z2, z3, zf⟩ := fourS hR
  simp only [Array.getD_eq_getD_getElem?] at h2
  simp [results, hf, go_sem, h2, z0, z1, z2, z3]

section
variable {W w : World} {K k : Nat} {t : TakerP} {vb v : Value} {c : Cn}

set_option maxHeartbeats 2000000 in
set_option maxRecDepth 100000 in
theorem info_c (h : CAt tc tp W K t vb v c w) (hk : Ok k c) (_hkb : k ≤ 1000000) : Calls Tryd.prog 7 #[.pointer (some ⟨K, 0, none⟩)] w fun e w' => e = .returned (infoV c) ∧ Below w.heap.size w w' := by
  have hpl := hk.place
  have hcn := hk.count
  have hln := hk.len
  have hfar : far = 1099511627776 := rfl
  unfold infoV
  obtain ⟨fz, hfz⟩ : ∃ fz, floorP c = fz := ⟨_, rfl⟩
  obtain ⟨n, hn⟩ : ∃ n, c.l.length = n := ⟨_, rfl⟩
  rw [hfz, hn]
  rw [hn] at hln
  have HFZ := Lib.hid hfz
  have hrow := h.row
  rw [hn] at hrow
  obtain ⟨va, vc, rfl⟩ := hrow.slice
  obtain ⟨w0, hw0⟩ : ∃ w0, w0 = w.alloc (.cells #[.int .i64 0, .int .i64 0, .int .i64 0, .int .i64 0] 46) := ⟨_, rfl⟩
  have hb0 : Below w.heap.size w w0 := by rw [hw0]; exact (Below.refl _ _).alloc (Nat.le_refl _) _
  have hrs : w0.heap[w.heap.size]? = some (.cells #[.int .i64 0, .int .i64 0, .int .i64 0, .int .i64 0] 46 (0, 0)) := by rw [hw0]; exact heap_alloc_new w _
  obtain ⟨rb, hrb⟩ : ∃ rb, w.heap.size = rb := ⟨_, rfl⟩
  rw [hrb] at hrs
  have h0 := h.next hb0
  obtain ⟨_, _, _, _, _, _, _, _, _, _, d10, d11, d12, df⟩ := h0.cells
  have hlt0 := heap_lt h0.cell
  have hKw := heap_lt h.cell
  have HH := Lib.hid h0; have HB0 := Lib.hid hb0; have HRS := Lib.hid hrs; have HRB := Lib.hid hrb; have HN := Lib.hid hn; have HK := Lib.hid hk
  have hn1 : w0.heap.size ≠ K := by omega
  have hw1 : IntKind.i64.wrap (c.place - 1) = c.place - 1 := IntWalk.i64_in _ (by omega)
  clear h hk hrow h0 hb0 hrs hrb hfz hn
  go_enter Tryd.func7, Tryd.ntmps7
  go_upto_region 1 with fail
  rw [← hw0, HRB.out]
  clear hw0
  go_region_held3 (fun w' => w'.cell? ⟨K, 10, none⟩ = some (.int .i64 c.place) ∧ w'.cell? ⟨K, 11, none⟩ = some (.int .i64 c.count) ∧ w'.cell? ⟨K, 12, none⟩ = some (.slice va n vc)) (first | (with_reducible exact ⟨d10, d11, d12⟩) | go_keep) (fail)
  rename_i hheld
  clear hheld
  obtain ⟨w3, hw3⟩ : ∃ w3, w3 = (w0.alloc (.cells #[.int .i64 (c.place - 1), .int .i64 (c.place - 1), .int .i64 c.count, .int .i64 (n : Nat)] 46)).drew := ⟨_, rfl⟩
  have hb3 : Below w0.heap.size w0 w3 := by rw [hw3]; exact ((Below.refl _ _).alloc (Nat.le_refl _) _).drew
  have hs3 : w3.heap[w0.heap.size]? = some (.cells #[.int .i64 (c.place - 1), .int .i64 (c.place - 1), .int .i64 c.count, .int .i64 (n : Nat)] 46 (0, 0)) := by rw [hw3]; exact heap_alloc_new w0 _
  rw [← hw3]
  have h3 := HH.out.next hb3
  have hrs3 := (hb3.block rb (heap_lt HRS.out)).trans HRS.out
  have hrbl : rb < w0.heap.size := heap_lt HRS.out
  obtain ⟨sb, hsb⟩ : ∃ sb, w0.heap.size = sb := ⟨_, rfl⟩
  have hrow3 := h3.row
  rw [HN.out] at hrow3
  obtain ⟨_, _, _, _, _, _, _, _, _, _, c10, c11, c12, cf⟩ := h3.cells
  have hlt := heap_lt h3.cell
  have hwb := Lib.hid (HB0.out.trans (hb3.mono HB0.out.size))
  rw [hsb] at hs3 hrbl ⊢
  have hsw : w.heap.size ≤ sb := by have := HRB.out; omega
  obtain ⟨x0, x1, x2, x3, xf⟩ := fourS hs3
  obtain ⟨y0, y1, y2, y3, yf⟩ := fourS hrs3
  have hsl := heap_lt hs3
  have hrl := heap_lt hrs3
  have HS3 := Lib.hid hs3; have HR3 := Lib.hid hrs3
  clear hw3 hb3 hs3 h3 hrs3 hsb d10 d11 d12 df hlt0 hn1
  by_cases hn0 : n = 0
  · subst hn0
    have hL : c.l = [] := List.eq_nil_of_length_eq_zero HN.out
    obtain rfl : fz = c.place - 1 := by rw [← HFZ.out]; unfold floorP; rw [hL]
    clear hrow3 hL
    have HF := Lib.hid (show Below w.heap.size w ((((w3.setCell ⟨rb, 0, none⟩ (.int .i64 (c.place - 1))).setCell ⟨rb, 1, none⟩ (.int .i64 (c.place - 1))).setCell ⟨rb, 2, none⟩ (.int .i64 c.count)).setCell ⟨rb, 3, none⟩ (.int .i64 0)) from
      ((((hwb.out.setCell (by have := HRB.out; simp only; omega) _).setCell (by have := HRB.out; simp only; omega) _).setCell (by have := HRB.out; simp only; omega) _).setCell (by have := HRB.out; simp only; omega) _))
    have HR4 := Lib.hid (set4 (.int .i64 (c.place - 1)) (.int .i64 (c.place - 1)) (.int .i64 c.count) (.int .i64 0) HR3.out)
    go_wp2_with fail
    refine bodyPost_ret (v := .agg #[.int .i64 (c.place - 1), .int .i64 (c.place - 1), .int .i64 c.count, .int .i64 0]) (res_info Tryd.results7 _ _ rb rfl HR4.out) rfl ?_
    exact ⟨rfl, HF.out⟩
  · obtain ⟨p, hp⟩ : ∃ p, c.l[0]? = some p := ⟨_, List.getElem?_eq_getElem (by rw [HN.out]; omega)⟩
    have hz : fz = p.seq - 1 := by
      rw [← HFZ.out]
      unfold floorP
      cases hcl : c.l with
      | nil => rw [hcl] at hp; simp at hp
      | cons a r => rw [hcl] at hp; simp at hp; subst hp; rfl
    have hps := (HK.out.in_ p (List.mem_of_getElem? hp)).1
    rcases hrow3.2 with ⟨_, h0⟩ | ⟨g, off, cap, cur, ev, _⟩
    · omega
    simp only [Value.slice.injEq, true_and] at ev
    obtain ⟨rfl, rfl⟩ := ev
    obtain ⟨m0, _, _, _, _⟩ := cells_pd hrow3 0 p hp (by omega)
    simp only [Nat.zero_mul, Nat.add_zero] at m0
    have hw2 : IntKind.i64.wrap (p.seq - 1) = p.seq - 1 := IntWalk.i64_in _ (by omega)
    have hnz : (0 : Int) < n := by omega
    have hn0' : 0 < n := by omega
    have hsr : rb ≠ sb := by omega
    have HZ := Lib.hid hz
    have h5 := Lib.hid (heap_setCell_same w3 sb 0 _ _ (.int .i64 (p.seq - 1)) HS3.out)
    have h6 := (heap_setCell_other w3 ⟨sb, 0, none⟩ rb (.int .i64 (p.seq - 1)) hsr).trans HR3.out
    have HR4 := Lib.hid (set4 (.int .i64 (p.seq - 1)) (.int .i64 (c.place - 1)) (.int .i64 c.count) (.int .i64 (n : Nat)) h6)
    have HF := Lib.hid (show Below w.heap.size w (((((w3.setCell ⟨sb, 0, none⟩ (.int .i64 (p.seq - 1))).setCell ⟨rb, 0, none⟩ (.int .i64 (p.seq - 1))).setCell ⟨rb, 1, none⟩ (.int .i64 (c.place - 1))).setCell ⟨rb, 2, none⟩ (.int .i64 c.count)).setCell ⟨rb, 3, none⟩ (.int .i64 (n : Nat))) from
      (((((hwb.out.setCell (by simp only; omega) _).setCell (by have := HRB.out; simp only; omega) _).setCell (by have := HRB.out; simp only; omega) _).setCell (by have := HRB.out; simp only; omega) _).setCell (by have := HRB.out; simp only; omega) _))
    clear hrow3 hp hz h6
    go_wp2_with fail
    refine bodyPost_ret (v := .agg #[.int .i64 (p.seq - 1), .int .i64 (c.place - 1), .int .i64 c.count, .int .i64 (n : Nat)]) (res_info Tryd.results7 _ _ rb rfl HR4.out) rfl ?_
    exact ⟨by rw [HZ.out], HF.out⟩
end
end Go.Proofs.YtapmhpnkpjgefaaDoor.Con
