/- Parts of the proof, joined: ConsumerRules in plain Lean: a watch over a consumer. No program here.; A watch in memory: its five cells and its three maps.; The turns of a consumer in memory.; A slice of records among the parameters, opened.; Slices of turns among the parameters, opened.; A plan among the parameters, opened.; A consumer's plan among the parameters, opened: a TakerP.; A consumer's plan among the parameters: the block of its waits lies in memory. -/
import Derived.Test.YtapmhpnkpjgefaaDoorConsumerRulesUptoM16
import Derived.Test.YtapmhpnkpjgefaaDoorConsumerRulesUptoM17
import Derived.Test.YtapmhpnkpjgefaaDoorConsumerRulesUptoM26
import Derived.Test.YtapmhpnkpjgefaaDoorConsumerRulesUptoM27
import Derived.Test.YtapmhpnkpjgefaaDoorConsumerRulesUptoM33
import Derived.Maps.OwnSet
import Derived.Maps.RangeWalk
import Derived.ChangeSlices
import Derived.OpenShut
import Derived.ChangeMaps5
namespace Go.Proofs.YtapmhpnkpjgefaaDoor.Con
open Subj (Tok pieces takes TakerP errT errT_facts argsOk_facts)
open Sto (Right getQ tk)
open Rec (Rc far)

/-- A watch: how often each came, when it is due, what is done with. -/
structure Wt where
  nth : Int → Int
  due : Int → Int
  done : Int → Bool
  last : Int
  count : Int

def Wt.zero : Wt := ⟨fun _ => 0, fun _ => 0, fun _ => false, 0, 0⟩

def upd {α : Type} (f : Int → α) (k : Int) (v : α) : Int → α := fun q => if q = k then v else f q

/-- What a delivery leaves. -/
def delW (t : TakerP) (now : Int) (d : Dl) (W : Wt) : Wt :=
  ⟨upd W.nth d.seq (W.nth d.seq + 1), upd W.due d.seq (now + waitT t d.nth), W.done, if d.nth = 1 then d.seq else W.last, W.count + 1⟩

/-- What is asked of a delivery. -/
structure Told (t : TakerP) (L : List Rc) (now : Int) (d : Dl) (W : Wt) : Prop where
  there : ∃ x, getQ L d.seq = some x ∧ x.subj = d.subj ∧ x.data = d.data
  takes : takes (pieces t.filt) (pieces d.subj) = true
  done : W.done d.seq = false
  count : d.count = W.count + 1
  nth : d.nth = W.nth d.seq + 1
  most : ¬ (0 < t.most ∧ t.most < d.nth)
  again : if d.nth = 1 then W.last < d.seq else W.due d.seq ≤ now ∧ t.ack ≠ 0

/-- What an answer that is taken leaves. -/
def ansW (t : TakerP) (now seq sort n : Int) (W : Wt) : Wt :=
  if sort = 2 then { W with due := upd W.due seq (now + n) }
  else if sort = 3 then { W with due := upd W.due seq (now + waitT t (W.nth seq)) }
  else if sort = 4 then { W with done := upd W.done seq true }
  else if sort = 1 then { W with done := fun q => W.done q || (decide (W.nth q ≠ 0) && (decide (q = seq) || (decide (t.ack = 1) && decide (q < seq)))) }
  else W

/-- How a watch and a consumer stand to each other. -/
structure Rel (t : TakerP) (L : List Rc) (last : Int) (c : Cn) (W : Wt) : Prop where
  pend : ∀ p ∈ c.l, W.nth p.seq = p.nth ∧ W.due p.seq = p.due ∧ W.done p.seq = false
  new : ∀ q, c.place ≤ q → W.nth q = 0 ∧ W.done q = false
  high : W.last < c.place
  count : W.count = c.count
  ack : c.l ≠ [] → t.ack ≠ 0
  msg : ∀ p ∈ c.l, p.seq ≤ last ∧ ∀ x, getQ L p.seq = some x → tk t.filt x = true
  nn : ∀ q, 0 ≤ W.nth q

theorem getQ_some {L : List Rc} {q : Int} {x : Rc} (h : getQ L q = some x) : x ∈ L ∧ x.seq = q := by
  unfold getQ at h
  have h1 := List.find?_some h
  exact ⟨List.mem_of_find?_eq_some h, by simpa using h1⟩

theorem getQ_mem {L : List Rc} (hr : L.Pairwise fun a b => a.seq < b.seq) {x : Rc} (hx : x ∈ L) : getQ L x.seq = some x := by
  unfold getQ
  induction L with
  | nil => cases hx
  | cons a l ih =>
    obtain ⟨h1, h2⟩ := List.pairwise_cons.1 hr
    rw [List.find?_cons]
    rcases List.mem_cons.1 hx with rfl | hx
    · simp
    · have := h1 x hx
      have hne : (a.seq == x.seq) = false := by simp; omega
      rw [hne]
      exact ih h2 hx

theorem rise_inj {l : List Pd} (h : l.Pairwise fun a b => a.seq < b.seq) {p q : Pd} (hp : p ∈ l) (hq : q ∈ l) (e : p.seq = q.seq) : p = q := by
  obtain ⟨i, hi, rfl⟩ := List.mem_iff_getElem.1 hp
  obtain ⟨j, hj, rfl⟩ := List.mem_iff_getElem.1 hq
  rcases Nat.lt_trichotomy i j with h1 | h1 | h1
  · have := List.pairwise_iff_getElem.1 h i j hi hj h1; omega
  · subst h1; rfl
  · have := List.pairwise_iff_getElem.1 h j i hj hi h1; omega

theorem again_stay (t : TakerP) (L : List Rc) (now : Int) : ∀ l : List Pd, ∀ p ∈ (againP t L now l).1, p ∈ l ∨ ∃ x, (againP t L now l).2 = some (p, x)
  | [], p, h => by simp [againP] at h
  | a :: r, p, h => by
    have ih := again_stay t L now r
    unfold againP at h ⊢
    split at h
    · rename_i h0
      rw [if_pos h0]
      rcases List.mem_cons.1 h with rfl | h
      · exact .inl (by simp)
      · rcases ih p h with h | h
        · exact .inl (by simp [h])
        · exact .inr h
    · rename_i h0
      rw [if_neg h0]
      have hrec : p ∈ (againP t L now r).1 → p ∈ a :: r ∨ ∃ x, (againP t L now r).2 = some (p, x) := fun h => by
        rcases ih p h with h | h
        · exact .inl (by simp [h])
        · exact .inr h
      split at h
      · exact hrec h
      · rename_i y h1
        split at h
        · rename_i h2; rw [if_pos h2]; exact hrec h
        · rename_i h2
          rw [if_neg h2]
          rcases List.mem_cons.1 h with rfl | h
          · exact .inr ⟨y, rfl⟩
          · exact .inl (by simp [h])

section
variable {t : TakerP} {L : List Rc} {last now : Int} {c : Cn} {k : Nat} {I : Idx.Ents} {W : Wt}

theorem Rel.sub (h : Rel t L last c W) {l : List Pd} (hs : ∀ p ∈ l, p ∈ c.l) : Rel t L last ⟨c.place, c.count, l⟩ W :=
  ⟨fun p hp => h.pend p (hs p hp), h.new, h.high, h.count, fun hne => h.ack (fun e => by
    obtain ⟨a, ha⟩ := List.exists_mem_of_ne_nil l hne
    have := hs a ha; rw [e] at this; cases this), fun p hp => h.msg p (hs p hp), h.nn⟩

/-- What Next does. -/
theorem Rel.next (h : Rel t L last c W) (ht : errT t = 0) (hR : Right L last I) (hk : Ok k c) :
    ((nextP t L now c).2.2 = 0 → Told t L now (nextP t L now c).2.1 W ∧ Rel t L last (nextP t L now c).1 (delW t now (nextP t L now c).2.1 W)) ∧ ((nextP t L now c).2.2 ≠ 0 → Rel t L last (nextP t L now c).1 W) := by
  unfold nextP
  split
  · exact ⟨fun e => by simp at e, fun _ => h⟩
  · rename_i hn
    have ha := again_ok (L := L) ht hk (now := now) (by omega)
    have hst := again_stay t L now c.l
    split
    · rename_i l p x he
      refine ⟨fun _ => ?_, fun e => absurd rfl e⟩
      rw [he] at ha hst
      simp only at hst
      obtain ⟨hpl, hg, q, hq, hpq, hqd, hqm⟩ := again_some he
      obtain ⟨hxL, hxs⟩ := getQ_some hg
      obtain ⟨w1, w2, w3⟩ := h.pend q hq
      obtain ⟨m1, m2⟩ := h.msg q hq
      have hok := hk.in_ q hq
      have hseq : p.seq = q.seq := by rw [hpq]
      have hnth : p.nth = q.nth + 1 := by rw [hpq]
      have hdue : p.due = now + waitT t (q.nth + 1) := by rw [hpq]
      have hack : t.ack ≠ 0 := h.ack fun e => by rw [e] at hq; cases hq
      constructor
      · refine ⟨⟨x, ?_, rfl, rfl⟩, ?_, ?_, ?_, ?_, ?_, ?_⟩
        · show getQ L x.seq = some x
          rw [hxs]; exact hg
        · exact m2 x (by rw [← hseq]; exact hg)
        · show W.done x.seq = false
          rw [hxs, hseq]; exact w3
        · show c.count + 1 = W.count + 1
          rw [h.count]
        · show p.nth = W.nth x.seq + 1
          rw [hxs, hseq, w1, hnth]
        · show ¬ (0 < t.most ∧ t.most < p.nth)
          rw [hnth]
          rintro ⟨h1, h2⟩
          have := hqm h1; omega
        · show if p.nth = 1 then _ else _
          rw [if_neg (by omega)]
          show W.due x.seq ≤ now ∧ _
          rw [hxs, hseq, w2]
          exact ⟨hqd, hack⟩
      · show Rel t L last ⟨c.place, c.count + 1, l⟩ (delW t now ⟨x.seq, x.subj, x.data, c.count + 1, p.nth, _⟩ W)
        have hother : ∀ y ∈ l, y = p ∨ (y ∈ c.l ∧ y.seq ≠ p.seq) := fun y hy => by
          by_cases e : y.seq = p.seq
          · exact .inl (rise_inj ha.rise hy hpl e)
          · rcases hst y hy with h1 | ⟨x', h1⟩
            · exact .inr ⟨h1, e⟩
            · simp only [Option.some.injEq, Prod.mk.injEq] at h1
              exact .inl h1.1.symm
        unfold delW
        simp only [hxs]
        refine ⟨fun y hy => ?_, fun z hz => ?_, ?_, ?_, fun _ => hack, fun y hy => ?_, fun z => ?_⟩
        · rcases hother y hy with rfl | ⟨h1, h2⟩
          · simp only [upd, if_true]
            exact ⟨by rw [hseq, w1, hnth], by rw [hdue, hnth], by rw [hseq]; exact w3⟩
          · simp only [upd, if_neg h2]
            exact h.pend y h1
        · have := h.new z hz
          have hz2 : z ≠ p.seq := by rw [hseq]; intro e; subst e; have := hok.1.2; exact absurd hz (by show ¬ c.place ≤ q.seq; omega)
          simp only [upd, if_neg hz2]
          exact this
        · rw [if_neg (by omega)]; exact h.high
        · show W.count + 1 = c.count + 1
          rw [h.count]
        · rcases hother y hy with rfl | ⟨h1, h2⟩
          · rw [hseq]; exact ⟨m1, m2⟩
          · exact h.msg y h1
        · simp only [upd]
          split
          · have := h.nn p.seq; omega
          · exact h.nn z
    · rename_i l he
      rw [he] at ha hst
      simp only at hst
      have hsub : ∀ p ∈ l, p ∈ c.l := fun p hp => by
        rcases hst p hp with h1 | ⟨x, h1⟩
        · exact h1
        · cases h1
      have hr := h.sub hsub
      unfold freshP
      split
      · exact ⟨fun e => by simp at e, fun _ => hr⟩
      · split
        · exact ⟨fun e => by simp at e, fun _ => hr⟩
        · rename_i x hx
          refine ⟨fun _ => ?_, fun e => absurd rfl e⟩
          have hm := List.mem_of_find?_eq_some hx
          have hw := List.find?_some hx
          unfold want at hw
          rw [Bool.and_eq_true, decide_eq_true_eq] at hw
          obtain ⟨hwp, hwt⟩ := hw
          simp only at hwp
          obtain ⟨n1, n2⟩ := h.new x.seq hwp
          have hgx := getQ_mem hR.rise hm
          have htop := hR.top x hm
          have hlt : ∀ p ∈ l, p.seq < x.seq := fun p hp => by have := (ha.in_ p hp).1.2; simp only at this; omega
          have hmost := (argsOk_facts (errT_facts ht).2.2.2)
          constructor
          · refine ⟨⟨x, hgx, rfl, rfl⟩, hwt, n2, ?_, ?_, ?_, ?_⟩
            · show c.count + 1 = W.count + 1
              rw [h.count]
            · show (1 : Int) = W.nth x.seq + 1
              rw [n1]; rfl
            · show ¬ (0 < t.most ∧ t.most < 1)
              omega
            · show if (1 : Int) = 1 then _ else _
              rw [if_pos rfl]
              have := h.high
              show W.last < x.seq
              omega
          · show Rel t L last ⟨x.seq + 1, c.count + 1, if t.ack = 0 then l else l ++ [⟨x.seq, 1, now + waitT t 1⟩]⟩ (delW t now ⟨x.seq, x.subj, x.data, c.count + 1, 1, _⟩ W)
            unfold delW
            simp only [if_true]
            have hold : ∀ p ∈ l, upd W.nth x.seq (W.nth x.seq + 1) p.seq = p.nth ∧ upd W.due x.seq (now + waitT t 1) p.seq = p.due ∧ W.done p.seq = false := fun p hp => by
              have h1 := hlt p hp
              simp only [upd, if_neg (show p.seq ≠ x.seq by omega)]
              exact hr.pend p hp
            have hnewq : ∀ z, x.seq + 1 ≤ z → upd W.nth x.seq (W.nth x.seq + 1) z = 0 ∧ W.done z = false := fun z hz => by
              simp only [upd, if_neg (show z ≠ x.seq by omega)]
              exact h.new z (by omega)
            have hnn : ∀ z, 0 ≤ upd W.nth x.seq (W.nth x.seq + 1) z := fun z => by
              simp only [upd]
              split
              · have := h.nn x.seq; omega
              · exact h.nn z
            by_cases hack : t.ack = 0
            · simp only [if_pos hack]
              exact ⟨hold, hnewq, by show x.seq < x.seq + 1; omega, by show W.count + 1 = c.count + 1; rw [h.count], fun hne => hr.ack hne, hr.msg, hnn⟩
            · simp only [if_neg hack]
              refine ⟨fun p hp => ?_, hnewq, by show x.seq < x.seq + 1; omega, by show W.count + 1 = c.count + 1; rw [h.count], fun _ => hack, fun p hp => ?_, hnn⟩
              · rcases List.mem_append.1 hp with hp | hp
                · exact hold p hp
                · simp only [List.mem_singleton] at hp
                  subst hp
                  simp only [upd, if_true]
                  exact ⟨by rw [n1]; rfl, trivial, n2⟩
              · rcases List.mem_append.1 hp with hp | hp
                · exact hr.msg p hp
                · simp only [List.mem_singleton] at hp
                  subst hp
                  refine ⟨htop, fun y hy => ?_⟩
                  simp only at hy
                  rw [hgx] at hy
                  cases hy
                  exact hwt

/-- What Answer does. -/
theorem Rel.answer (h : Rel t L last c W) (hk : Ok k c) (seq sort n : Int) :
    ((answerP t now seq sort n c).2 = 0 → Rel t L last (answerP t now seq sort n c).1 (ansW t now seq sort n W)) ∧ ((answerP t now seq sort n c).2 ≠ 0 → (answerP t now seq sort n c).1 = c) := by
  unfold answerP
  split
  · exact ⟨fun e => by simp at e, fun _ => rfl⟩
  · rename_i hs
    split
    · exact ⟨fun e => by simp at e, fun _ => rfl⟩
    · rename_i i hi
      split
      · exact ⟨fun e => by simp at e, fun _ => rfl⟩
      · rename_i p hp
        obtain ⟨p', hp', hps⟩ := idx_some hi
        rw [hp] at hp'
        obtain rfl : p = p' := by simpa using hp'
        have hpm := List.mem_of_getElem? hp
        obtain ⟨w1, w2, w3⟩ := h.pend p hpm
        have hok := hk.in_ p hpm
        have hack : t.ack ≠ 0 := h.ack fun e => by rw [e] at hpm; cases hpm
        have hset : ∀ d : Int, Rel t L last ⟨c.place, c.count, c.l.set i ⟨p.seq, p.nth, d⟩⟩ { W with due := upd W.due seq d } := fun d => by
          have hr := (set_ok hk hp 0 (by unfold far; omega)).rise
          have hmem : ∀ y ∈ c.l.set i ⟨p.seq, p.nth, d⟩, y = ⟨p.seq, p.nth, d⟩ ∨ (y ∈ c.l ∧ y.seq ≠ p.seq) := fun y hy => by
            obtain ⟨j, hj, rfl⟩ := List.mem_iff_getElem.1 hy
            rw [List.length_set] at hj
            rw [List.getElem_set]
            split
            · exact .inl rfl
            · rename_i hij
              refine .inr ⟨List.getElem_mem hj, fun e => hij ?_⟩
              obtain ⟨hil, e2⟩ := List.getElem?_eq_some_iff.1 hp
              rcases Nat.lt_trichotomy i j with h1 | h1 | h1
              · have := List.pairwise_iff_getElem.1 hk.rise i j hil hj h1; rw [e2] at this; omega
              · exact h1
              · have := List.pairwise_iff_getElem.1 hk.rise j i hj hil h1; rw [e2] at this; omega
          refine ⟨fun y hy => ?_, h.new, h.high, h.count, fun _ => hack, fun y hy => ?_, h.nn⟩
          · rcases hmem y hy with rfl | ⟨h1, h2⟩
            · simp only [upd, hps, if_true]
              exact ⟨by rw [← hps]; exact w1, trivial, by rw [← hps]; exact w3⟩
            · rw [hps] at h2
              simp only [upd, if_neg h2]
              exact h.pend y h1
          · rcases hmem y hy with rfl | ⟨h1, h2⟩
            · exact h.msg p hpm
            · exact h.msg y h1
        have herase : ∀ y ∈ c.l.eraseIdx i, y ∈ c.l ∧ y.seq ≠ seq := fun y hy => by
          have h1 := List.mem_of_mem_eraseIdx hy
          refine ⟨h1, fun e => ?_⟩
          have e2 : y = p := rise_inj hk.rise h1 hpm (by rw [e, hps])
          subst e2
          obtain ⟨j, hj, hji, hje⟩ := List.mem_eraseIdx_iff_getElem.1 hy
          obtain ⟨hil, e2⟩ := List.getElem?_eq_some_iff.1 hp
          rcases Nat.lt_trichotomy i j with h1 | h1 | h1
          · have := List.pairwise_iff_getElem.1 hk.rise i j hil hj h1; rw [e2, hje] at this; omega
          · exact hji h1.symm
          · have := List.pairwise_iff_getElem.1 hk.rise j i hj hil h1; rw [e2, hje] at this; omega
        have hsub := h.sub (l := c.l.eraseIdx i) fun y hy => (herase y hy).1
        unfold ansW
        by_cases h2 : sort = 2
        · rw [if_pos h2, if_pos h2]
          exact ⟨fun _ => hset _, fun e => absurd rfl e⟩
        · rw [if_neg h2, if_neg h2]
          by_cases h3 : sort = 3
          · rw [if_pos h3, if_pos h3]
            refine ⟨fun _ => ?_, fun e => absurd rfl e⟩
            rw [show W.nth seq = p.nth by rw [← hps]; exact w1]
            exact hset _
          · rw [if_neg h3, if_neg h3]
            by_cases h4 : sort = 4
            · rw [if_pos h4, if_neg (by omega)]
              refine ⟨fun _ => ⟨fun y hy => ?_, fun z hz => ?_, hsub.high, hsub.count, hsub.ack, hsub.msg, hsub.nn⟩, fun e => absurd rfl e⟩
              · obtain ⟨h5, h6⟩ := herase y hy
                simp only [upd, if_neg h6]
                exact h.pend y h5
              · have hz2 : z ≠ seq := by rw [← hps]; intro e; have := hok.1.2; simp only at hz; omega
                simp only [upd, if_neg hz2]
                exact h.new z hz
            · have h1 : sort = 1 := by omega
              rw [if_neg h4, if_pos h1]
              have hnew : ∀ z, c.place ≤ z → W.nth z = 0 ∧ (W.done z || (decide (W.nth z ≠ 0) && (decide (z = seq) || (decide (t.ack = 1) && decide (z < seq))))) = false := fun z hz => by
                obtain ⟨e1, e2⟩ := h.new z hz
                rw [e1, e2]
                exact ⟨rfl, by simp⟩
              by_cases ha : t.ack = 1
              · rw [if_pos ⟨h1, ha⟩]
                refine ⟨fun _ => ?_, fun e => absurd rfl e⟩
                have hd : ∀ y ∈ c.l.drop (i + 1), y ∈ c.l ∧ seq < y.seq := fun y hy => by
                  refine ⟨List.mem_of_mem_drop hy, ?_⟩
                  obtain ⟨j, hj, hje⟩ := List.mem_iff_getElem.1 hy
                  rw [List.getElem_drop] at hje
                  rw [List.length_drop] at hj
                  obtain ⟨hil, e2⟩ := List.getElem?_eq_some_iff.1 hp
                  have := List.pairwise_iff_getElem.1 hk.rise i (i + 1 + j) hil (by omega) (by omega)
                  rw [hje, e2] at this
                  omega
                have hsub2 := h.sub (l := c.l.drop (i + 1)) fun y hy => (hd y hy).1
                refine ⟨fun y hy => ?_, hnew, hsub2.high, hsub2.count, hsub2.ack, hsub2.msg, hsub2.nn⟩
                obtain ⟨h5, h6⟩ := hd y hy
                obtain ⟨q1, q2, q3⟩ := h.pend y h5
                refine ⟨q1, q2, ?_⟩
                show (W.done y.seq || _) = false
                rw [q3, decide_eq_false (show ¬ y.seq = seq by omega), decide_eq_false (show ¬ y.seq < seq by omega)]
                simp
              · rw [if_neg fun e => ha e.2]
                refine ⟨fun _ => ⟨fun y hy => ?_, hnew, hsub.high, hsub.count, hsub.ack, hsub.msg, hsub.nn⟩, fun e => absurd rfl e⟩
                obtain ⟨h5, h6⟩ := herase y hy
                obtain ⟨q1, q2, q3⟩ := h.pend y h5
                refine ⟨q1, q2, ?_⟩
                show (W.done y.seq || _) = false
                rw [q3, decide_eq_false h6, decide_eq_false ha]
                simp

/-- Nothing comes back. -/
theorem Rel.more (h : Rel t L last c W) {L2 : List Rc} {last2 : Int} (_hR2 : L2.Pairwise fun a b => a.seq < b.seq) (hR : L.Pairwise fun a b => a.seq < b.seq) (hl : last ≤ last2) (hm : ∀ x ∈ L2, x ∈ L ∨ last < x.seq) : Rel t L2 last2 c W :=
  ⟨h.pend, h.new, h.high, h.count, h.ack, fun p hp => by
    obtain ⟨h1, h2⟩ := h.msg p hp
    refine ⟨by omega, fun x hx => ?_⟩
    obtain ⟨e1, e2⟩ := getQ_some hx
    rcases hm x e1 with h3 | h3
    · exact h2 x (by rw [← e2]; exact getQ_mem hR h3)
    · omega, h.nn⟩

theorem floor_le (hk : Ok k c) {c2 : Cn} (hp : c.place ≤ c2.place) (hs : ∀ p ∈ c2.l, (∃ q ∈ c.l, q.seq = p.seq) ∨ c.place ≤ p.seq) : floorP c ≤ floorP c2 := by
  have hmin : ∀ q ∈ c.l, floorP c ≤ q.seq - 1 := fun q hq => by
    unfold floorP
    cases hl : c.l with
    | nil => rw [hl] at hq; cases hq
    | cons a r =>
      rw [hl] at hq
      simp only
      rcases List.mem_cons.1 hq with rfl | hq
      · omega
      · have h1 := hk.rise
        rw [hl] at h1
        have := (List.pairwise_cons.1 h1).1 q hq
        omega
  have hpl : floorP c ≤ c.place - 1 := by
    cases hl : c.l with
    | nil => unfold floorP; rw [hl]; simp
    | cons a r =>
      have h1 := hmin a (by rw [hl]; simp)
      have h2 := (hk.in_ a (by rw [hl]; simp)).1.2
      omega
  unfold floorP
  cases hl : c2.l with
  | nil => simp only; unfold floorP at hpl; omega
  | cons a r =>
    simp only
    unfold floorP at hmin hpl
    rcases hs a (by rw [hl]; simp) with ⟨q, hq, e⟩ | e
    · have := hmin q hq; omega
    · omega

theorem floor_place (hk : Ok k c) : floorP c ≤ c.place - 1 := by
  unfold floorP
  cases hl : c.l with
  | nil => simp
  | cons a r =>
    have h2 := (hk.in_ a (by rw [hl]; simp)).1.2
    simp only; omega

theorem next_floor (_ht : errT t = 0) (hk : Ok k c) : floorP c ≤ floorP (nextP t L now c).1 := by
  have hst := again_mem t L now c.l
  unfold nextP
  split
  · exact Int.le_refl _
  · split
    · rename_i l p x he
      rw [he] at hst
      refine floor_le hk (Int.le_refl _) fun y hy => .inl ?_
      rcases hst y hy with h1 | ⟨q, h1, rfl⟩
      · exact ⟨y, h1, rfl⟩
      · exact ⟨q, h1, rfl⟩
    · rename_i l he
      rw [he] at hst
      have hin : ∀ y ∈ l, ∃ q ∈ c.l, q.seq = y.seq := fun y hy => by
        rcases hst y hy with h1 | ⟨q, h1, rfl⟩
        · exact ⟨y, h1, rfl⟩
        · exact ⟨q, h1, rfl⟩
      unfold freshP
      split
      · exact floor_le hk (Int.le_refl _) fun y hy => .inl (hin y hy)
      · split
        · exact floor_le hk (Int.le_refl _) fun y hy => .inl (hin y hy)
        · rename_i x hx
          have hw := List.find?_some hx
          unfold want at hw
          rw [Bool.and_eq_true, decide_eq_true_eq] at hw
          obtain ⟨hwp, _⟩ := hw
          simp only at hwp
          show floorP c ≤ floorP ⟨x.seq + 1, c.count + 1, if t.ack = 0 then l else l ++ [⟨x.seq, 1, now + waitT t 1⟩]⟩
          refine floor_le hk (by show c.place ≤ x.seq + 1; omega) fun y hy => ?_
          simp only at hy
          split at hy
          · exact .inl (hin y hy)
          · rcases List.mem_append.1 hy with hy | hy
            · exact .inl (hin y hy)
            · simp only [List.mem_singleton] at hy
              subst hy
              exact .inr hwp

theorem answer_floor (hk : Ok k c) (seq sort n : Int) : floorP c ≤ floorP (answerP t now seq sort n c).1 := by
  unfold answerP
  split
  · exact Int.le_refl _
  · split
    · exact Int.le_refl _
    · split
      · exact Int.le_refl _
      · rename_i i hi x p hp
        have hset : ∀ d : Int, floorP c ≤ floorP ⟨c.place, c.count, c.l.set i ⟨p.seq, p.nth, d⟩⟩ := fun d => floor_le hk (Int.le_refl _) fun y hy => by
          rcases List.mem_or_eq_of_mem_set hy with hy | rfl
          · exact .inl ⟨y, hy, rfl⟩
          · exact .inl ⟨p, List.mem_of_getElem? hp, rfl⟩
        split
        · exact hset _
        · split
          · exact hset _
          · split
            · exact floor_le hk (Int.le_refl _) fun y hy => .inl ⟨y, List.mem_of_mem_drop hy, rfl⟩
            · exact floor_le hk (Int.le_refl _) fun y hy => .inl ⟨y, List.mem_of_mem_eraseIdx hy, rfl⟩

/-- No more wait than may. -/
def Few (t : TakerP) (c : Cn) : Prop := 0 < t.pend → (c.l.length : Int) ≤ t.pend

theorem next_few (h : Few t c) : Few t (nextP t L now c).1 := fun hp => by
  have h0 := h hp
  have hl := again_len t L now c.l
  unfold nextP
  split
  · exact h0
  · split
    · rename_i l p x he
      rw [he] at hl
      show (l.length : Int) ≤ _
      simp only at hl; omega
    · rename_i l he
      rw [he] at hl
      simp only at hl
      unfold freshP
      split
      · show (l.length : Int) ≤ _; omega
      · rename_i hf
        split
        · show (l.length : Int) ≤ _; omega
        · rename_i x hx
          show (((if t.ack = 0 then l else l ++ [⟨x.seq, 1, now + waitT t 1⟩]).length : Nat) : Int) ≤ _
          simp only at hf
          split
          · omega
          · rw [List.length_append, List.length_singleton]
            have : ¬ t.pend ≤ (l.length : Int) := fun e => hf ⟨hp, e⟩
            omega

theorem answer_few (h : Few t c) (seq sort n : Int) : Few t (answerP t now seq sort n c).1 := fun hp => by
  have h0 := h hp
  unfold answerP
  split
  · exact h0
  · split
    · exact h0
    · split
      · exact h0
      · split
        · show (((c.l.set _ _).length : Nat) : Int) ≤ _
          rw [List.length_set]; exact h0
        · split
          · show (((c.l.set _ _).length : Nat) : Int) ≤ _
            rw [List.length_set]; exact h0
          · split
            · show (((c.l.drop _).length : Nat) : Int) ≤ _
              rw [List.length_drop]; omega
            · show (((c.l.eraseIdx _).length : Nat) : Int) ≤ _
              have := List.length_eraseIdx_le c.l ‹Nat›
              omega
end
end Go.Proofs.YtapmhpnkpjgefaaDoor.Con

namespace Go.Proofs.YtapmhpnkpjgefaaDoor.Con
open Go.RowKit Go.Maps Heap

def elI : Value → Option (DataW Unit × List MemPlace)
  | .int .i64 k => some (.lit (.int .i64 k), [])
  | _ => none
def elB : Value → Option (DataW Unit × List MemPlace)
  | .bool b => some (.lit (.bool b), [])
  | _ => none

theorem elI_inv {v : Value} {k : Int} {ps : List MemPlace} (h : elI v = some (.lit (.int .i64 k), ps)) : v = .int .i64 k := by
  unfold elI at h
  split at h
  · simp only [Option.some.injEq, Prod.mk.injEq, DataW.lit.injEq, Lit.int.injEq, true_and] at h
    rw [h.1]
  · cases h

theorem elB_inv {v : Value} {k : Bool} {ps : List MemPlace} (h : elB v = some (.lit (.bool k), ps)) : v = .bool k := by
  unfold elB at h
  split at h
  · simp only [Option.some.injEq, Prod.mk.injEq, DataW.lit.injEq, Lit.bool.injEq] at h
    rw [h.1]
  · cases h

theorem keyI : Keyed Tryd.prog 3 := int_keyed Tryd.underlying3
theorem zeroI (w : World) : (zeroValue 3).run Tryd.prog w = .ok (.int .i64 0) w := by kernel_rfl
theorem zeroB (w : World) : (zeroValue 4).run Tryd.prog w = .ok (.bool false) w := by kernel_rfl
theorem keyW {n : Int} (h : -9223372036854775808 ≤ n ∧ n ≤ 9223372036854775807) : keyOf Tryd.prog 3 (.int .i64 n) = some (.int .i64 n) := keyOf_int_mk Tryd.underlying3 (WalkArith.wf_i64 ⟨h.1, h.2⟩)

theorem ownsMap_blk {R : Value → Option (DataW Unit × List MemPlace)} {w w' : World} {b n : Nat} {X : DataW Unit} (h : w.ownsMap Tryd.prog 3 R b n X) (he : w'.heap[b]? = w.heap[b]?) : w'.ownsMap Tryd.prog 3 R b n X := by
  obtain ⟨es, clock, hb, r⟩ := h
  exact ⟨es, clock, he.trans hb, r⟩

/-- A map of numbers at block b: f, and which numbers it has. -/
def MapI (b N : Nat) (f : Int → Int) (g : Int → Bool) (w : World) : Prop := ∃ X : DataW Unit, w.ownsMap Tryd.prog 3 elI b N X ∧ (∀ k, X.atKey (.int .i64 k) (.lit (.int .i64 0)) = .lit (.int .i64 (f k))) ∧ ∀ k, Maps.has X (.int .i64 k) = g k
def MapB (b N : Nat) (f : Int → Bool) (w : World) : Prop := ∃ X : DataW Unit, w.ownsMap Tryd.prog 3 elB b N X ∧ ∀ k, X.atKey (.int .i64 k) (.lit (.bool false)) = .lit (.bool (f k))

section
variable {b N : Nat} {w w' : World} {f : Int → Int} {g : Int → Bool} {e : Int → Bool}

theorem MapI.blk (h : MapI b N f g w) (he : w'.heap[b]? = w.heap[b]?) : MapI b N f g w' := by
  obtain ⟨X, h1, h2⟩ := h
  exact ⟨X, ownsMap_blk h1 he, h2⟩
theorem MapB.blk (h : MapB b N e w) (he : w'.heap[b]? = w.heap[b]?) : MapB b N e w' := by
  obtain ⟨X, h1, h2⟩ := h
  exact ⟨X, ownsMap_blk h1 he, h2⟩

theorem MapI.look (h : MapI b N f g w) {k : Int} (hk : -9223372036854775808 ≤ k ∧ k ≤ 9223372036854775807) : (Instr.lookup 35 (.map (some b)) (.int .i64 k) false).run Tryd.prog w = .ok (.int .i64 (f k)) w := by
  obtain ⟨X, h1, h2, _⟩ := h
  obtain ⟨v, ps, hr, hv⟩ := h1.lookup keyI Tryd.underlying35 (zeroI w) (zd := .lit (.int .i64 0)) (zp := []) rfl (keyW hk)
  rw [h2] at hv
  rw [hr, elI_inv hv]
theorem MapB.look (h : MapB b N e w) {k : Int} (hk : -9223372036854775808 ≤ k ∧ k ≤ 9223372036854775807) : (Instr.lookup 36 (.map (some b)) (.int .i64 k) false).run Tryd.prog w = .ok (.bool (e k)) w := by
  obtain ⟨X, h1, h2⟩ := h
  obtain ⟨v, ps, hr, hv⟩ := h1.lookup keyI Tryd.underlying36 (zeroB w) (zd := .lit (.bool false)) (zp := []) rfl (keyW hk)
  rw [h2] at hv
  rw [hr, elB_inv hv]

theorem MapI.put (h : MapI b N f g w) (hN : N < maxLen) {k : Int} (hk : -9223372036854775808 ≤ k ∧ k ≤ 9223372036854775807) (x : Int) :
    ∃ w', (Instr.mapUpdate 35 (.map (some b)) (.int .i64 k) (.int .i64 x)).run Tryd.prog w = .ok () w' ∧ MapI b (N + 1) (upd f k x) (upd g k true) w' ∧ Heap.Touch (fun j => j = b) w w' := by
  obtain ⟨X, h1, h2, h3⟩ := h
  obtain ⟨w', hr, ho, ht⟩ := h1.store keyI Tryd.underlying35 hN (keyW hk) (val := .int .i64 x) (d := .lit (.int .i64 x)) (ps := []) rfl
  refine ⟨w', hr, ⟨_, ho, fun q => ?_, fun q => ?_⟩, (Heap.Touch.refl _ w).grown ht.grown fun j e => .inl (by simp at e; exact e.symm)⟩
  · unfold upd
    split
    · rename_i e; subst e
      exact Maps.atKey_put_same h1.isMap (show WideAt.IsKeyLit (.int .i64 _) from trivial) _ _
    · rename_i e
      rw [Maps.atKey_put_other (by intro c; simp only [Lit.int.injEq, true_and] at c; exact e c)]
      exact h2 q
  · unfold upd
    split
    · rename_i e; subst e
      exact Maps.has_put_same h1.isMap (show WideAt.IsKeyLit (.int .i64 _) from trivial) _
    · rename_i e
      rw [Maps.has_put_other (by intro c; simp only [Lit.int.injEq, true_and] at c; exact e c)]
      exact h3 q
theorem MapB.put (h : MapB b N e w) (hN : N < maxLen) {k : Int} (hk : -9223372036854775808 ≤ k ∧ k ≤ 9223372036854775807) (x : Bool) :
    ∃ w', (Instr.mapUpdate 36 (.map (some b)) (.int .i64 k) (.bool x)).run Tryd.prog w = .ok () w' ∧ MapB b (N + 1) (upd e k x) w' ∧ Heap.Touch (fun j => j = b) w w' := by
  obtain ⟨X, h1, h2⟩ := h
  obtain ⟨w', hr, ho, ht⟩ := h1.store keyI Tryd.underlying36 hN (keyW hk) (val := .bool x) (d := .lit (.bool x)) (ps := []) rfl
  refine ⟨w', hr, ⟨_, ho, fun q => ?_⟩, (Heap.Touch.refl _ w).grown ht.grown fun j e => .inl (by simp at e; exact e.symm)⟩
  unfold upd
  split
  · rename_i e; subst e
    exact Maps.atKey_put_same h1.isMap (show WideAt.IsKeyLit (.int .i64 _) from trivial) _ _
  · rename_i e
    rw [Maps.atKey_put_other (by intro c; simp only [Lit.int.injEq, true_and] at c; exact e c)]
    exact h2 q

theorem MapI.made (w : World) : MapI w.heap.size 0 (fun _ => 0) (fun _ => false) (w.alloc (.map #[] 0)) := ⟨_, World.ownsMap_made w _ _ _, fun _ => rfl, fun _ => rfl⟩
theorem MapB.made (w : World) : MapB w.heap.size 0 (fun _ => false) (w.alloc (.map #[] 0)) := ⟨_, World.ownsMap_made w _ _ _, fun _ => rfl⟩

theorem MapI.mono {M : Nat} (h : MapI b N f g w) (hM : N ≤ M) : MapI b M f g w := by
  obtain ⟨X, h1, h2⟩ := h
  exact ⟨X, h1.mono hM, h2⟩
theorem MapB.mono {M : Nat} (h : MapB b N e w) (hM : N ≤ M) : MapB b M e w := by
  obtain ⟨X, h1, h2⟩ := h
  exact ⟨X, h1.mono hM, h2⟩
theorem MapI.lt (h : MapI b N f g w) : b < w.heap.size := by
  obtain ⟨X, h1, _⟩ := h
  exact h1.lt
theorem MapB.lt (h : MapB b N e w) : b < w.heap.size := by
  obtain ⟨X, h1, _⟩ := h
  exact h1.lt
theorem MapI.obj (h : MapI b N f g w) : ∃ es c, w.heap[b]? = some (.map es c) := by
  obtain ⟨X, ⟨es, c, hb, _⟩, _⟩ := h
  exact ⟨es, c, hb⟩
theorem MapB.obj (h : MapB b N e w) : ∃ es c, w.heap[b]? = some (.map es c) := by
  obtain ⟨X, ⟨es, c, hb, _⟩, _⟩ := h
  exact ⟨es, c, hb⟩
end

/-- The watch at block B: its maps at md, mn, mo. -/
structure WAt (B md mn mo N n : Nat) (W : Wt) (w : World) : Prop where
  cells : w.heap[B]? = some (.cells #[.map (some md), .map (some mn), .map (some mo), .int .i64 W.last, .int .i64 W.count] 38 (0, 0))
  due : ∃ g, MapI md N W.due g w
  nth : MapI mn n W.nth (fun k => decide (W.nth k ≠ 0)) w
  done : MapB mo N W.done w
  ne : md ≠ mn ∧ md ≠ mo ∧ mn ≠ mo

def OwnW (B md mn mo : Nat) : Nat → Prop := fun k => k = B ∨ k = md ∨ k = mn ∨ k = mo

section
variable {B md mn mo N n : Nat} {W : Wt} {w w' : World}

theorem WAt.neB (h : WAt B md mn mo N n W w) : B ≠ md ∧ B ≠ mn ∧ B ≠ mo := by
  obtain ⟨g, hd⟩ := h.due
  refine ⟨fun e => ?_, fun e => ?_, fun e => ?_⟩
  · obtain ⟨es, c, hb⟩ := hd.obj
    have := h.cells; rw [e, hb] at this; cases this
  · obtain ⟨es, c, hb⟩ := h.nth.obj
    have := h.cells; rw [e, hb] at this; cases this
  · obtain ⟨es, c, hb⟩ := h.done.obj
    have := h.cells; rw [e, hb] at this; cases this

theorem WAt.touch {F : Nat → Prop} (h : WAt B md mn mo N n W w) (ht : Heap.Touch F w w') (hn : ∀ k, OwnW B md mn mo k → ¬ F k) : WAt B md mn mo N n W w' := by
  obtain ⟨g, hd⟩ := h.due
  exact ⟨(ht.block B (heap_lt h.cells) (hn B (.inl rfl))).trans h.cells, ⟨g, hd.blk (ht.block md hd.lt (hn _ (.inr (.inl rfl))))⟩, h.nth.blk (ht.block mn h.nth.lt (hn _ (.inr (.inr (.inl rfl))))), h.done.blk (ht.block mo h.done.lt (hn _ (.inr (.inr (.inr rfl))))), h.ne⟩

theorem WAt.next (h : WAt B md mn mo N n W w) (hb : Below w.heap.size w w') : WAt B md mn mo N n W w' :=
  h.touch (F := fun _ => False) (Heap.Touch.ofBelow hb) fun _ _ e => e

theorem WAt.more {M m : Nat} (h : WAt B md mn mo N n W w) (hM : N ≤ M) (hm : n ≤ m) : WAt B md mn mo M m W w := by
  obtain ⟨g, hd⟩ := h.due
  exact ⟨h.cells, ⟨g, hd.mono hM⟩, h.nth.mono hm, h.done.mono hM, h.ne⟩

/-- The cells are turned. -/
theorem WAt.cell (h : WAt B md mn mo N n W w) (ht : Heap.Touch (fun k => k = B) w w') {last count : Int} (hc : w'.heap[B]? = some (.cells #[.map (some md), .map (some mn), .map (some mo), .int .i64 last, .int .i64 count] 38 (0, 0))) : WAt B md mn mo N n { W with last := last, count := count } w' := by
  obtain ⟨g, hd⟩ := h.due
  obtain ⟨n1, n2, n3⟩ := h.neB
  exact ⟨hc, ⟨g, hd.blk (ht.block md hd.lt fun e => n1 e.symm)⟩, h.nth.blk (ht.block mn h.nth.lt fun e => n2 e.symm), h.done.blk (ht.block mo h.done.lt fun e => n3 e.symm), h.ne⟩

theorem WAt.putDue (h : WAt B md mn mo N n W w) (hN : N < maxLen) {k : Int} (hk : -9223372036854775808 ≤ k ∧ k ≤ 9223372036854775807) (x : Int) :
    ∃ w', (Instr.mapUpdate 35 (.map (some md)) (.int .i64 k) (.int .i64 x)).run Tryd.prog w = .ok () w' ∧ WAt B md mn mo (N + 1) n { W with due := upd W.due k x } w' ∧ Heap.Touch (fun j => j = md) w w' := by
  obtain ⟨g, hd⟩ := h.due
  obtain ⟨n1, n2, n3⟩ := h.neB
  obtain ⟨w', h1, h2, h3⟩ := hd.put hN hk x
  exact ⟨w', h1, ⟨(h3.block B (heap_lt h.cells) n1).trans h.cells, ⟨_, h2⟩, h.nth.blk (h3.block mn h.nth.lt fun e => h.ne.1 e.symm), (h.done.blk (h3.block mo h.done.lt fun e => h.ne.2.1 e.symm)).mono (by omega), h.ne⟩, h3⟩

theorem WAt.putNth (h : WAt B md mn mo N n W w) (hN : n < maxLen) {k : Int} (hk : -9223372036854775808 ≤ k ∧ k ≤ 9223372036854775807) {x : Int} (hx : x ≠ 0) :
    ∃ w', (Instr.mapUpdate 35 (.map (some mn)) (.int .i64 k) (.int .i64 x)).run Tryd.prog w = .ok () w' ∧ WAt B md mn mo N (n + 1) { W with nth := upd W.nth k x } w' ∧ Heap.Touch (fun j => j = mn) w w' := by
  obtain ⟨g, hd⟩ := h.due
  obtain ⟨n1, n2, n3⟩ := h.neB
  obtain ⟨w', h1, h2, h3⟩ := h.nth.put hN hk x
  have e : upd (fun k => decide (W.nth k ≠ 0)) k true = fun q => decide (upd W.nth k x q ≠ 0) := by
    funext q
    unfold upd
    split
    · simp [hx]
    · rfl
  rw [e] at h2
  exact ⟨w', h1, ⟨(h3.block B (heap_lt h.cells) n2).trans h.cells, ⟨g, hd.blk (h3.block md hd.lt h.ne.1)⟩, h2, h.done.blk (h3.block mo h.done.lt fun e => h.ne.2.2 e.symm), h.ne⟩, h3⟩

theorem WAt.putDone (h : WAt B md mn mo N n W w) (hN : N < maxLen) {k : Int} (hk : -9223372036854775808 ≤ k ∧ k ≤ 9223372036854775807) (x : Bool) :
    ∃ w', (Instr.mapUpdate 36 (.map (some mo)) (.int .i64 k) (.bool x)).run Tryd.prog w = .ok () w' ∧ WAt B md mn mo (N + 1) n { W with done := upd W.done k x } w' ∧ Heap.Touch (fun j => j = mo) w w' := by
  obtain ⟨g, hd⟩ := h.due
  obtain ⟨n1, n2, n3⟩ := h.neB
  obtain ⟨w', h1, h2, h3⟩ := h.done.put hN hk x
  exact ⟨w', h1, ⟨(h3.block B (heap_lt h.cells) n3).trans h.cells, ⟨g, (hd.blk (h3.block md hd.lt h.ne.2.1)).mono (by omega)⟩, h.nth.blk (h3.block mn h.nth.lt h.ne.2.2), h2, h.ne⟩, h3⟩
end
end Go.Proofs.YtapmhpnkpjgefaaDoor.Con

namespace Go.Proofs.YtapmhpnkpjgefaaDoor.Con
open Go.RowKit Heap
open Sto (Parts)
open Rec (Rc far)

/-- A turn. -/
structure Tn where
  kind : Int
  now : Int
  seq : Int
  sort : Int
  n : Int
  r : Rc

/-- What a turn that was read is. -/
def FitsT (t : Tn) : Prop := Sto.Fits t.r ∧ -9223372036854775808 ≤ t.seq ∧ t.seq ≤ 9223372036854775807

def tnC (t : Tn) : Array Value := #[.int .i64 t.kind, .int .i64 t.now, .int .i64 t.seq, .int .i64 t.sort, .int .i64 t.n, .int .i64 t.r.kind, .int .i64 t.r.seq, .int .i64 t.r.time, .string ⟨t.r.subj.toArray⟩, .string ⟨t.r.head.toArray⟩, .string ⟨t.r.data.toArray⟩]

/-- A slice of turns. -/
def TurnsAt (w : World) (v : Value) (l : List Tn) : Prop := ∃ ao cap, v = .slice ao l.length cap ∧ (l ≠ [] → ∃ g off, ao = some ⟨g, off, none⟩ ∧ ∀ i p, l[i]? = some p → ∀ j, j < 11 → w.cell? ⟨g, off + i * 11 + j, none⟩ = (tnC p)[j]?)

theorem TurnsAt.below {w w' : World} {v : Value} {l : List Tn} (h : TurnsAt w v l) (hb : Below w.heap.size w w') : TurnsAt w' v l := by
  obtain ⟨ao, cap, rfl, ha⟩ := h
  refine ⟨ao, cap, rfl, fun hne => ?_⟩
  obtain ⟨g, off, rfl, h2⟩ := ha hne
  refine ⟨g, off, rfl, fun i p hp j hj => ?_⟩
  have h3 := h2 i p hp j hj
  have h4 : ∃ u, (tnC p)[j]? = some u := ⟨_, Array.getElem?_eq_getElem (by show j < 11; exact hj)⟩
  obtain ⟨u, hu⟩ := h4
  rw [hu] at h3 ⊢
  exact (hb.cell (World.block_lt_of_cell? w _ h3)).trans h3

/-- The cells of one of them. -/
theorem TurnsAt.at {w : World} {ao : Option Addr} {n cap : Nat} {l : List Tn} (h : TurnsAt w (.slice ao n cap) l) {i : Nat} {t : Tn} (ht : l[i]? = some t) {s hd d : ByteArray} (hp : Parts t.r s hd d) : ∃ g off, ao = some ⟨g, off, none⟩ ∧
    w.cell? ⟨g, off + i * 11, none⟩ = some (.int .i64 t.kind) ∧ w.cell? ⟨g, off + i * 11 + 1, none⟩ = some (.int .i64 t.now) ∧ w.cell? ⟨g, off + i * 11 + 2, none⟩ = some (.int .i64 t.seq) ∧ w.cell? ⟨g, off + i * 11 + 3, none⟩ = some (.int .i64 t.sort) ∧ w.cell? ⟨g, off + i * 11 + 4, none⟩ = some (.int .i64 t.n) ∧ w.cell? ⟨g, off + i * 11 + 5, none⟩ = some (.int .i64 t.r.kind) ∧ w.cell? ⟨g, off + i * 11 + 6, none⟩ = some (.int .i64 t.r.seq) ∧ w.cell? ⟨g, off + i * 11 + 7, none⟩ = some (.int .i64 t.r.time) ∧ w.cell? ⟨g, off + i * 11 + 8, none⟩ = some (.string s) ∧ w.cell? ⟨g, off + i * 11 + 9, none⟩ = some (.string hd) ∧ w.cell? ⟨g, off + i * 11 + 10, none⟩ = some (.string d) := by
  obtain ⟨ao', cap', e, ha⟩ := h
  simp only [Value.slice.injEq] at e
  obtain ⟨rfl, _, rfl⟩ := e
  obtain ⟨g, off, rfl, h2⟩ := ha (fun e => by rw [e] at ht; simp at ht)
  have f := h2 i t ht
  refine ⟨g, off, rfl, ?_⟩
  have f8 := f 8 (by omega)
  have f9 := f 9 (by omega)
  have f10 := f 10 (by omega)
  simp only [tnC] at f8 f9 f10
  rw [hp.s1] at f8
  rw [hp.h1] at f9
  rw [hp.d1] at f10
  exact ⟨f 0 (by omega), f 1 (by omega), f 2 (by omega), f 3 (by omega), f 4 (by omega), f 5 (by omega), f 6 (by omega), f 7 (by omega), f8, f9, f10⟩

end Go.Proofs.YtapmhpnkpjgefaaDoor.Con

namespace Go.Proofs.YtapmhpnkpjgefaaDoor.Sto
open Go.RowKit
open Rec (Rc)

theorem cells_recO : Tryd.prog.cellsOf 42 = 6 := by kernel_rfl
theorem cells_intO : Tryd.prog.cellsOf 3 = 1 := by kernel_rfl
theorem cells_strO : Tryd.prog.cellsOf 9 = 1 := by kernel_rfl

theorem addr_flatO {w : World} {a : Addr} {v : Value} (h : w.cell? a = some v) : a = ⟨a.block, a.off, none⟩ := by
  cases a with
  | mk b o s =>
    cases s with
    | none => rfl
    | some s =>
      unfold World.cell? at h
      simp only at h
      split at h <;> simp at h

/-- Cells side by side, one by one. -/
theorem cells_atO {w : World} {base : Nat} {a : Addr} {n : Nat} {cs : List Value} (h : w.cells? base a n = some cs) : cs.length = n ∧ ∀ i, i < n → w.cell? (a.add i) = cs[i]? := by
  unfold World.cells? at h
  split at h
  · obtain ⟨h1, h2⟩ := mapM_get h
    refine ⟨by simpa using h1, fun i hi => ?_⟩
    obtain ⟨y, h3, h4⟩ := h2 i i (by simp [hi])
    rw [h3]
    exact h4
  · cases h

theorem bulk_textO {H : Type} (s : ByteArray) : Rows.uptoBulk (DataW.lit (H := H) (.string s.data.toList)) = s.size + 1 := by
  simp only [Rows.uptoBulk, Array.length_toList]; rfl

theorem list6O {α : Type} {l : List α} (h : l.length = 6) : ∃ a b c d e f, l = [a, b, c, d, e, f] := by
  match l, h with
  | [a, b, c, d, e, f], _ => exact ⟨a, b, c, d, e, f, rfl⟩

theorem str_back (s : ByteArray) : (⟨s.data.toList.toArray⟩ : ByteArray) = s := by cases s; simp

set_option maxRecDepth 100000 in
open Go.WideShapes Go.ChangeShapes in
/-- One record among what was read. -/
theorem open_rec {H : Type} {enc : TypeId × Value → H} {W : World} {base fuel : Nat} {held : Bool} {cs : List Value} {y : DataW H × List MemPlace}
    (h : DataW.trod enc Tryd.prog W base (fun _ => true) held fuel 42 cs = some y) (hk : Rows.uptoBulk y.1 ≤ 1048576) :
    ∃ p : Rc, cs = recC p ∧ Fits p := by
  obtain ⟨n, hlen, xs, hd, hm⟩ := rd_struct Tryd.underlying42 h
  obtain ⟨hl, hg⟩ := mapM_get hm
  rw [cells_recO] at hlen
  obtain ⟨c0, c1, c2, c3, c4, c5, rfl⟩ := list6O hlen
  obtain ⟨z0, w0, q0⟩ := hg 0 _ rfl
  obtain ⟨z1, w1, q1⟩ := hg 1 _ rfl
  obtain ⟨z2, w2, q2⟩ := hg 2 _ rfl
  obtain ⟨z3, w3, q3⟩ := hg 3 _ rfl
  obtain ⟨z4, w4, q4⟩ := hg 4 _ rfl
  obtain ⟨z5, w5, q5⟩ := hg 5 _ rfl
  clear hg hm
  simp only [cells_intO, cells_strO] at q0 q1 q2 q3 q4 q5
  obtain ⟨a0, e0, _⟩ := rd_int Tryd.underlying3 q0
  obtain ⟨a1, e1, _⟩ := rd_int Tryd.underlying3 q1
  obtain ⟨a2, e2, _⟩ := rd_int Tryd.underlying3 q2
  obtain ⟨a3, e3, _, f3⟩ := rd_string Tryd.underlying9 q3
  obtain ⟨a4, e4, _, f4⟩ := rd_string Tryd.underlying9 q4
  obtain ⟨a5, e5, _, f5⟩ := rd_string Tryd.underlying9 q5
  simp at e0 e1 e2 e3 e4 e5
  subst e0 e1 e2 e3 e4 e5
  rw [hd] at hk
  simp only [Rows.uptoBulk] at hk
  have hb : ∀ z ∈ xs, Rows.uptoBulk z.1 ≤ 1048576 := fun z hz => by
    have := bulk_part (d := z.1) (l := xs.map (·.1)) (List.mem_map.2 ⟨z, hz, rfl⟩)
    omega
  have b3 := hb _ (List.mem_of_getElem? w3)
  have b4 := hb _ (List.mem_of_getElem? w4)
  have b5 := hb _ (List.mem_of_getElem? w5)
  rw [f3, bulk_textO] at b3
  rw [f4, bulk_textO] at b4
  rw [f5, bulk_textO] at b5
  refine ⟨⟨a0, a1, a2, a3.data.toList, a4.data.toList, a5.data.toList⟩, by simp only [recC, str_back], ?_, ?_, ?_⟩
  · show a3.data.toList.length ≤ _
    rw [show a3.data.toList.length = a3.size by simp]; omega
  · show a4.data.toList.length ≤ _
    rw [show a4.data.toList.length = a4.size by simp]; omega
  · show a5.data.toList.length ≤ _
    rw [show a5.data.toList.length = a5.size by simp]; omega

set_option maxRecDepth 100000 in
open Go.WideShapes Go.ChangeShapes in
theorem open_recs {H : Type} {enc : TypeId × Value → H} {W : World} {fuel : Nat} {held : Bool} {cs : List Value} {y : DataW H × List MemPlace}
    (h : DataW.trod enc Tryd.prog W 0 (fun _ => true) held fuel 25 cs = some y) (hk : Rows.uptoBulk y.1 ≤ 1048576) :
    ∃ ao n cap l, cs = [.slice ao n cap] ∧ RecsAt W (.slice ao n cap) l ∧ ∀ r ∈ l, Fits r := by
  rcases rd_slice Tryd.underlying25 h with ⟨e0, ey⟩ | ⟨a, n, cap, m, e0, hlc, hcm, elems, rest, ey, hel, _, he, _⟩
  · exact ⟨none, 0, 0, [], e0, ⟨none, 0, rfl, fun h => absurd rfl h⟩, (fun _ h => by cases h)⟩
  · rw [cells_recO] at he
    have hall : ∀ d ∈ elems.map (·.1), Rows.uptoBulk d ≤ 1048576 := by
      intro d hd
      rw [ey] at hk
      have := bulk_part hd
      simp only [Rows.uptoBulk] at hk; omega
    have hcell : ∀ i, i < n → ∃ p : Rc, (∀ j, j < 6 → W.cell? ((a.add (i * 6)).add j) = (recC p)[j]?) ∧ Fits p := by
      intro i hi
      obtain ⟨z, hz, h2⟩ := he i hi
      rw [Option.bind_eq_some_iff] at h2
      obtain ⟨cs, h3, h4⟩ := h2
      obtain ⟨_, h6⟩ := cells_atO h3
      obtain ⟨p, rfl, r1⟩ := open_rec h4 (hall _ (List.mem_map.2 ⟨z, List.mem_of_getElem? hz, rfl⟩))
      exact ⟨p, h6, r1⟩
    refine ⟨some a, n, cap, (List.range n).map (fun i => if h : i < n then (hcell i h).choose else ⟨0, 0, 0, [], [], []⟩), e0, ⟨some a, cap, by simp, fun hne => ?_⟩, fun r hr => ?_⟩
    · have hnp : 0 < n := by
        rcases Nat.eq_zero_or_pos n with e | e
        · exact absurd (by simp [e]) hne
        · exact e
      have ha : a = ⟨a.block, a.off, none⟩ := by
        obtain ⟨p, hs, _⟩ := hcell 0 hnp
        have h0 := hs 0 (by omega)
        have h1 : (a.add (0 * 6)).add 0 = a := by rw [Nat.zero_mul]; rfl
        rw [h1] at h0
        exact addr_flatO h0
      refine ⟨a.block, a.off, by rw [← ha], fun i p hp => ?_⟩
      have hi : i < n := by
        have := (List.getElem?_eq_some_iff.1 hp).1
        simpa using this
      have hpp : (hcell i hi).choose = p := by
        simp [hi] at hp
        exact hp
      have h1 := (hcell i hi).choose_spec.1
      rw [hpp] at h1
      have h2 : ∀ j, j < 6 → W.cell? ⟨a.block, a.off + i * 6 + j, none⟩ = (recC p)[j]? := fun j hj => by
        have := h1 j hj
        rw [ha] at this
        simpa only [Addr.add_lit] using this
      exact ⟨h2 0 (by omega), h2 1 (by omega), h2 2 (by omega), h2 3 (by omega), h2 4 (by omega), h2 5 (by omega)⟩
    · obtain ⟨i, hi, rfl⟩ := List.mem_map.1 hr
      have hi' : i < n := by simpa using hi
      rw [dif_pos hi']
      exact (hcell i hi').choose_spec.2
end Go.Proofs.YtapmhpnkpjgefaaDoor.Sto

namespace Go.Proofs.YtapmhpnkpjgefaaDoor.Con
open Go.RowKit
open Sto (addr_flatO cells_atO open_rec Fits recC cells_recO cells_intO)
open Rec (Rc far)

theorem wf_intC {n : Int} (h : (Lit.int .i64 n).wf = true) : -9223372036854775808 ≤ n ∧ n ≤ 9223372036854775807 := by
  simp [Lit.wf] at h
  exact h

theorem cells_turnC : Tryd.prog.cellsOf 44 = 11 := by kernel_rfl
theorem cells_ansC : Tryd.prog.cellsOf 40 = 2 := by kernel_rfl

theorem list11 {α : Type} {l : List α} (h : l.length = 11) : ∃ a b c d e f g i j k m, l = [a, b, c, d, e, f, g, i, j, k, m] := by
  match l, h with
  | [a, b, c, d, e, f, g, i, j, k, m], _ => exact ⟨a, b, c, d, e, f, g, i, j, k, m, rfl⟩

set_option maxRecDepth 100000 in
open Go.WideShapes Go.ChangeShapes in
/-- An answer among what was read. -/
theorem open_ans {H : Type} {enc : TypeId × Value → H} {W : World} {base fuel : Nat} {held : Bool} {cs : List Value} {y : DataW H × List MemPlace}
    (h : DataW.trod enc Tryd.prog W base (fun _ => true) held fuel 40 cs = some y) : ∃ a b : Int, cs = [.int .i64 a, .int .i64 b] := by
  obtain ⟨n, hlen, xs, hd, hm⟩ := rd_struct Tryd.underlying40 h
  obtain ⟨hl, hg⟩ := mapM_get hm
  rw [cells_ansC] at hlen
  obtain ⟨c0, c1, rfl⟩ : ∃ a b, cs = [a, b] := by
    match cs, hlen with
    | [a, b], _ => exact ⟨a, b, rfl⟩
  obtain ⟨z0, w0, q0⟩ := hg 0 _ rfl
  obtain ⟨z1, w1, q1⟩ := hg 1 _ rfl
  clear hg hm
  simp only [cells_intO] at q0 q1
  obtain ⟨a0, e0, _⟩ := rd_int Tryd.underlying3 q0
  obtain ⟨a1, e1, _⟩ := rd_int Tryd.underlying3 q1
  simp at e0 e1
  subst e0 e1
  exact ⟨a0, a1, rfl⟩

set_option maxRecDepth 100000 in
open Go.WideShapes Go.ChangeShapes in
/-- One turn among what was read. -/
theorem open_turn {H : Type} {enc : TypeId × Value → H} {W : World} {base fuel : Nat} {held : Bool} {cs : List Value} {y : DataW H × List MemPlace}
    (h : DataW.trod enc Tryd.prog W base (fun _ => true) held fuel 44 cs = some y) (hk : Rows.uptoBulk y.1 ≤ 1048576) :
    ∃ t : Tn, cs = (tnC t).toList ∧ FitsT t := by
  obtain ⟨n, hlen, xs, hd, hm⟩ := rd_struct Tryd.underlying44 h
  obtain ⟨hl, hg⟩ := mapM_get hm
  rw [cells_turnC] at hlen
  obtain ⟨c0, c1, c2, c3, c4, c5, c6, c7, c8, c9, c10, rfl⟩ := list11 hlen
  obtain ⟨z0, w0, q0⟩ := hg 0 _ rfl
  obtain ⟨z1, w1, q1⟩ := hg 1 _ rfl
  obtain ⟨z2, w2, q2⟩ := hg 2 _ rfl
  obtain ⟨z3, w3, q3⟩ := hg 3 _ rfl
  obtain ⟨z4, w4, q4⟩ := hg 4 _ rfl
  clear hg hm
  simp only [cells_intO, cells_ansC, cells_recO] at q0 q1 q2 q3 q4
  rw [hd] at hk
  simp only [Rows.uptoBulk] at hk
  have hb : ∀ z ∈ xs, Rows.uptoBulk z.1 ≤ 1048576 := fun z hz => by
    have := bulk_part (d := z.1) (l := xs.map (·.1)) (List.mem_map.2 ⟨z, hz, rfl⟩)
    omega
  have b4 := hb _ (List.mem_of_getElem? w4)
  obtain ⟨a0, e0, _⟩ := rd_int Tryd.underlying3 q0
  obtain ⟨a1, e1, _⟩ := rd_int Tryd.underlying3 q1
  obtain ⟨a2, e2, g2⟩ := rd_int Tryd.underlying3 q2
  obtain ⟨a3, a4, e3⟩ := open_ans q3
  obtain ⟨x, e4, hx⟩ := open_rec q4 b4
  simp [recC] at e0 e1 e2 e3 e4
  obtain ⟨rfl, rfl⟩ := e3
  obtain ⟨rfl, rfl, rfl, rfl, rfl, rfl⟩ := e4
  subst e0 e1 e2
  exact ⟨⟨a0, a1, a2, a3, a4, x⟩, by simp [tnC], hx, wf_intC g2⟩

def tnZ : Tn := ⟨0, 0, 0, 0, 0, ⟨0, 0, 0, [], [], []⟩⟩

set_option maxRecDepth 100000 in
open Go.WideShapes Go.ChangeShapes in
theorem open_turns {H : Type} {enc : TypeId × Value → H} {W : World} {fuel : Nat} {held : Bool} {cs : List Value} {y : DataW H × List MemPlace}
    (h : DataW.trod enc Tryd.prog W 0 (fun _ => true) held fuel 26 cs = some y) (hk : Rows.uptoBulk y.1 ≤ 1048576) :
    ∃ ao n cap l, cs = [.slice ao n cap] ∧ TurnsAt W (.slice ao n cap) l ∧ ∀ t ∈ l, FitsT t := by
  rcases rd_slice Tryd.underlying26 h with ⟨e0, ey⟩ | ⟨a, n, cap, m, e0, hlc, hcm, elems, rest, ey, hel, _, he, _⟩
  · exact ⟨none, 0, 0, [], e0, ⟨none, 0, rfl, fun h => absurd rfl h⟩, (fun _ h => by cases h)⟩
  · rw [cells_turnC] at he
    have hall : ∀ d ∈ elems.map (·.1), Rows.uptoBulk d ≤ 1048576 := by
      intro d hd
      rw [ey] at hk
      have := bulk_part hd
      simp only [Rows.uptoBulk] at hk; omega
    have hcell : ∀ i, i < n → ∃ t : Tn, (∀ j, j < 11 → W.cell? ((a.add (i * 11)).add j) = (tnC t).toList[j]?) ∧ FitsT t := by
      intro i hi
      obtain ⟨z, hz, h2⟩ := he i hi
      rw [Option.bind_eq_some_iff] at h2
      obtain ⟨cs, h3, h4⟩ := h2
      obtain ⟨_, h6⟩ := cells_atO h3
      obtain ⟨p, rfl, r1⟩ := open_turn h4 (hall _ (List.mem_map.2 ⟨z, List.mem_of_getElem? hz, rfl⟩))
      exact ⟨p, h6, r1⟩
    refine ⟨some a, n, cap, (List.range n).map (fun i => if h : i < n then (hcell i h).choose else tnZ), e0, ⟨some a, cap, by simp, fun hne => ?_⟩, fun r hr => ?_⟩
    · have hnp : 0 < n := by
        rcases Nat.eq_zero_or_pos n with e | e
        · exact absurd (by simp [e]) hne
        · exact e
      have ha : a = ⟨a.block, a.off, none⟩ := by
        obtain ⟨p, hs, _⟩ := hcell 0 hnp
        have h0 := hs 0 (by omega)
        have h1 : (a.add (0 * 11)).add 0 = a := by rw [Nat.zero_mul]; rfl
        rw [h1] at h0
        exact addr_flatO h0
      refine ⟨a.block, a.off, by rw [← ha], fun i p hp j hj => ?_⟩
      have hi : i < n := by
        have := (List.getElem?_eq_some_iff.1 hp).1
        simpa using this
      have hpp : (hcell i hi).choose = p := by
        rw [List.getElem?_map, List.getElem?_range hi] at hp
        simp only [Option.map_some, Option.some.injEq] at hp
        rw [dif_pos hi] at hp
        exact hp
      have h1 := (hcell i hi).choose_spec.1
      rw [hpp] at h1
      have := h1 j hj
      rw [ha] at this
      simpa only [Addr.add_lit, Array.getElem?_toList] using this
    · obtain ⟨i, hi, rfl⟩ := List.mem_map.1 hr
      have hi' : i < n := by simpa using hi
      rw [dif_pos hi']
      exact (hcell i hi').choose_spec.2

end Go.Proofs.YtapmhpnkpjgefaaDoor.Con

namespace Go.Proofs.YtapmhpnkpjgefaaDoor.Subj
open Go.RowKit

theorem list10 {α : Type} {l : List α} (h : l.length = 10) : ∃ a b c d e f g i j k, l = [a, b, c, d, e, f, g, i, j, k] := by
  match l, h with
  | [a, b, c, d, e, f, g, i, j, k], _ => exact ⟨a, b, c, d, e, f, g, i, j, k, rfl⟩

theorem cells_ints : Tryd.prog.cellsOf 3 = 1 := by kernel_rfl
theorem cells_strs : Tryd.prog.cellsOf 9 = 1 := by kernel_rfl
theorem addr_flat {w : World} {a : Addr} {v : Value} (h : w.cell? a = some v) : a = ⟨a.block, a.off, none⟩ := by
  cases a with
  | mk b o s =>
    cases s with
    | none => rfl
    | some s =>
      unfold World.cell? at h
      simp only at h
      split at h <;> simp at h

/-- Cells side by side, one by one. -/
theorem cells_at {w : World} {base : Nat} {a : Addr} {n : Nat} {cs : List Value} (h : w.cells? base a n = some cs) : cs.length = n ∧ ∀ i, i < n → w.cell? (a.add i) = cs[i]? := by
  unfold World.cells? at h
  split at h
  · obtain ⟨h1, h2⟩ := mapM_get h
    refine ⟨by simpa using h1, fun i hi => ?_⟩
    obtain ⟨y, h3, h4⟩ := h2 i i (by simp [hi])
    rw [h3]
    exact h4
  · cases h

theorem bulk_all {H : Type} : ∀ {l : List (DataW H)}, (∀ d ∈ l, 1 ≤ Rows.uptoBulk d) → l.length ≤ Rows.uptoBulkAll l
  | [], _ => Nat.zero_le _
  | d :: l, h => by
    have h1 := h d (by simp)
    have h2 := bulk_all (l := l) fun x hx => h x (List.mem_cons_of_mem _ hx)
    simp only [Rows.uptoBulkAll, List.length_cons]; omega

theorem bulk_text {H : Type} (s : ByteArray) : Rows.uptoBulk (DataW.lit (H := H) (.string s.data.toList)) = s.size + 1 := by
  simp only [Rows.uptoBulk, Array.length_toList]; rfl

end Go.Proofs.YtapmhpnkpjgefaaDoor.Subj

namespace Go.Proofs.YtapmhpnkpjgefaaDoor.Con
open Go.RowKit Go.ChangeMaps Go.ChangeAt Subj

theorem cells_taker : Tryd.prog.cellsOf 24 = 10 := by kernel_rfl
theorem cells_sliceI : Tryd.prog.cellsOf 22 = 1 := by kernel_rfl
theorem cells_boolT : Tryd.prog.cellsOf 4 = 1 := by kernel_rfl

set_option maxRecDepth 100000 in
open Go.WideShapes Go.ChangeShapes in
theorem open_intsT {H : Type} {enc : TypeId × Value → H} {W : World} {fuel : Nat} {cs : List Value} {y : DataW H × List MemPlace}
    (h : DataW.trod enc Tryd.prog W 0 (fun _ => true) true fuel 22 cs = some y) (hk : Rows.uptoBulk y.1 ≤ 1048576) :
    ∃ ao n cap zs, cs = [.slice ao n cap] ∧ zs.length = n ∧ Ints W (.slice ao n cap) zs ∧ n ≤ 1048576 := by
  rcases rd_slice Tryd.underlying22 h with ⟨e0, ey⟩ | ⟨a, n, cap, m, e0, hlc, hcm, elems, rest, ey, hel, _, he, _⟩
  · exact ⟨none, 0, 0, [], e0, rfl, ⟨none, 0, rfl, Nat.le_refl _, fun h => absurd rfl h⟩, by omega⟩
  · rw [cells_ints] at he
    have hcell : ∀ i, i < n → ∃ z : Int, W.cell? (a.add (i * 1)) = some (.int .i64 z) ∧ ∃ d, elems[i]? = some d ∧ 1 ≤ Rows.uptoBulk d.1 := by
      intro i hi
      obtain ⟨z, hz, h2⟩ := he i hi
      rw [Option.bind_eq_some_iff] at h2
      obtain ⟨cs, h3, h4⟩ := h2
      have h7 : 1 ≤ Rows.uptoBulk z.1 := by
        cases z.1 with
        | lit l => cases l <;> simp only [Rows.uptoBulk] <;> omega
        | _ => simp only [Rows.uptoBulk] <;> omega
      obtain ⟨v, rfl, _⟩ := rd_int Tryd.underlying3 h4
      obtain ⟨_, h6⟩ := cells_at h3
      exact ⟨v, h6 0 (by omega), z, hz, h7⟩
    have hpos : ∀ d ∈ elems.map (·.1), 1 ≤ Rows.uptoBulk d := by
      intro d hd
      obtain ⟨z, hz, rfl⟩ := List.mem_map.1 hd
      obtain ⟨i, hi, rfl⟩ := List.getElem_of_mem hz
      obtain ⟨_, _, d, h3, h4⟩ := hcell i (by omega)
      rw [List.getElem?_eq_getElem hi, Option.some.injEq] at h3
      rw [h3]; exact h4
    have hn : n ≤ 1048576 := by
      have h1 := bulk_all hpos
      rw [List.length_map, hel] at h1
      rw [ey] at hk
      simp only [Rows.uptoBulk] at hk; omega
    refine ⟨some a, n, cap, (List.range n).map (fun i => if h : i < n then (hcell i h).choose else 0), e0, by simp, ⟨some a, cap, by simp, by simpa using hlc, fun hne => ?_⟩, hn⟩
    have hnp : 0 < n := by
      rcases Nat.eq_zero_or_pos n with e | e
      · exact absurd (by simp [e]) hne
      · exact e
    have ha : a = ⟨a.block, a.off, none⟩ := by
      obtain ⟨s, hs, _⟩ := hcell 0 hnp
      have h0 : a.add (0 * 1) = a := by rw [Nat.zero_mul]; rfl
      rw [h0] at hs
      exact addr_flat hs
    refine ⟨a.block, a.off, by rw [← ha], fun i hi => ?_⟩
    have hi' : i < n := by simpa using hi
    have h1 := (hcell i hi').choose_spec.1
    have h2 : ((List.range n).map (fun i => if h : i < n then (hcell i h).choose else 0)).getD i 0 = (hcell i hi').choose := by
      simp [List.getD, hi']
    rw [h2]
    generalize (hcell i hi').choose = z at h1 ⊢
    rw [ha, Nat.mul_one, Addr.add_lit] at h1
    exact h1

set_option maxRecDepth 100000 in
open Go.WideShapes Go.ChangeShapes in
theorem open_takerT {H : Type} {enc : TypeId × Value → H} {W : World} {base : Nat} {v0 : Value} {d0 : DataW H} {p0 : List MemPlace}
    (h0 : DataW.Trod enc Tryd.prog W 0 (fun _ => true) true 24 v0 d0 p0) (o0 : Value.okWide Tryd.prog W .any base 24 v0) (hk : Rows.uptoBulk d0 ≤ 1048576) :
    ∃ (name filt : ByteArray) (src start ack wait most pend : Int) (push : Bool) (ao : Option Addr) (n cap : Nat) (back : List Int), v0 = .agg #[.string name, .string filt, .int .i64 src, .int .i64 start, .int .i64 ack, .int .i64 wait, .slice ao n cap, .int .i64 most, .int .i64 pend, .bool push] ∧ name.size ≤ 1048576 ∧ filt.size ≤ 1048576 ∧ back.length = n ∧ n ≤ 1048576 ∧ Ints W (.slice ao n cap) back := by
  obtain ⟨cs, rfl, hcs⟩ := okWide_struct Tryd.underlying24 o0
  obtain ⟨fuel, hf⟩ := h0
  obtain ⟨n, hlen, xs, hd, hm⟩ := rd_struct Tryd.underlying24 hf
  obtain ⟨hl, hg⟩ := mapM_get hm
  obtain ⟨c0, c1, c2, c3, c4, c5, c6, c7, c8, c9, hc⟩ := list10 (l := cs.toList) (by rw [← cells_taker]; simpa using hcs)
  obtain rfl : cs = #[c0, c1, c2, c3, c4, c5, c6, c7, c8, c9] := by cases cs; simp_all
  obtain ⟨z0, w0, q0⟩ := hg 0 _ rfl
  obtain ⟨z1, w1, q1⟩ := hg 1 _ rfl
  obtain ⟨z2, w2, q2⟩ := hg 2 _ rfl
  obtain ⟨z3, w3, q3⟩ := hg 3 _ rfl
  obtain ⟨z4, w4, q4⟩ := hg 4 _ rfl
  obtain ⟨z5, w5, q5⟩ := hg 5 _ rfl
  obtain ⟨z6, w6, q6⟩ := hg 6 _ rfl
  obtain ⟨z7, w7, q7⟩ := hg 7 _ rfl
  obtain ⟨z8, w8, q8⟩ := hg 8 _ rfl
  obtain ⟨z9, w9, q9⟩ := hg 9 _ rfl
  clear hg hm w2 w3 w4 w5 w7 w8 w9
  simp only [cells_ints, cells_strs, cells_sliceI, cells_boolT, Value.cells] at q0 q1 q2 q3 q4 q5 q6 q7 q8 q9
  have hd : d0 = _ := hd
  have hb : ∀ z ∈ xs, Rows.uptoBulk z.1 ≤ 1048576 := by
    intro z hz
    have := bulk_part (d := z.1) (l := xs.map (·.1)) (List.mem_map.2 ⟨z, hz, rfl⟩)
    rw [hd] at hk
    simp only [Rows.uptoBulk] at hk
    omega
  have b0 := hb _ (List.mem_of_getElem? w0)
  have b1 := hb _ (List.mem_of_getElem? w1)
  have b6 := hb _ (List.mem_of_getElem? w6)
  obtain ⟨name, e0, _, f0⟩ := rd_string Tryd.underlying9 q0
  obtain ⟨filt, e1, _, f1⟩ := rd_string Tryd.underlying9 q1
  obtain ⟨src, e2, _⟩ := rd_int Tryd.underlying3 q2
  obtain ⟨start, e3, _⟩ := rd_int Tryd.underlying3 q3
  obtain ⟨ack, e4, _⟩ := rd_int Tryd.underlying3 q4
  obtain ⟨wait, e5, _⟩ := rd_int Tryd.underlying3 q5
  obtain ⟨ao, k, cap, zs, e6, f6, g6, j6⟩ := open_intsT q6 b6
  obtain ⟨most, e7, _⟩ := rd_int Tryd.underlying3 q7
  obtain ⟨pend, e8, _⟩ := rd_int Tryd.underlying3 q8
  obtain ⟨push, e9⟩ := rd_bool Tryd.underlying4 q9
  simp at e0 e1 e2 e3 e4 e5 e6 e7 e8 e9
  subst e0 e1 e2 e3 e4 e5 e6 e7 e8 e9
  rw [f0, bulk_text] at b0
  rw [f1, bulk_text] at b1
  exact ⟨name, filt, src, start, ack, wait, most, pend, push, ao, k, cap, zs, rfl, by omega, by omega, f6, j6, g6⟩

set_option maxRecDepth 100000 in
open Go.WideShapes Go.ChangeShapes in
/-- The plan as a whole. -/
theorem open_takerP {H : Type} {enc : TypeId × Value → H} {W : World} {base : Nat} {v0 : Value} {d0 : DataW H} {p0 : List MemPlace}
    (h0 : DataW.Trod enc Tryd.prog W 0 (fun _ => true) true 24 v0 d0 p0) (o0 : Value.okWide Tryd.prog W .any base 24 v0) (hk : Rows.uptoBulk d0 ≤ 1048576) :
    ∃ (t : TakerP) (vb : Value), v0 = takerV t vb ∧ t.name.length ≤ 1048576 ∧ t.filt.length ≤ 1048576 ∧ Ints W vb t.back := by
  obtain ⟨name, filt, src, start, ack, wait, most, pend, push, ao, n, cap, back, rfl, hnm, hfl, hn, hnl, hB⟩ := open_takerT h0 o0 hk
  have e1 : (⟨name.data.toList.toArray⟩ : ByteArray) = name := by cases name; rfl
  have e2 : (⟨filt.data.toList.toArray⟩ : ByteArray) = filt := by cases filt; rfl
  have l1 : name.data.toList.length = name.size := Array.length_toList
  have l2 : filt.data.toList.length = filt.size := Array.length_toList
  refine ⟨⟨name.data.toList, filt.data.toList, src, start, ack, wait, back, most, pend, push⟩, .slice ao n cap, ?_, by rw [l1]; exact hnm, by rw [l2]; exact hfl, hB⟩
  unfold takerV
  simp only [e1, e2]
end Go.Proofs.YtapmhpnkpjgefaaDoor.Con

namespace Go.Proofs.YtapmhpnkpjgefaaDoor.Con
open Go.RowKit Heap Subj

theorem types_taker : Tryd.prog.cellTypes Tryd.prog.depth 24 = some [9, 9, 3, 3, 3, 3, 22, 3, 3, 4] := by kernel_rfl

theorem shape_lt {w : World} {k : Nat} {x : TypeId × Nat} (h : w.shape? k = some x) : k < w.heap.size := by
  unfold World.shape? at h
  split at h
  · rename_i h1; exact heap_lt h1
  · cases h

set_option maxRecDepth 100000 in
theorem taker_own {W : World} {base : Nat} {t : TakerP} {vb : Value} (o0 : Value.okWide Tryd.prog W .any base 24 (takerV t vb)) : ∀ k, own vb k → k < W.heap.size := by
  unfold Value.okWide at o0
  rw [Tryd.underlying24] at o0
  obtain ⟨cs, e, _, ts, h1, _, h2⟩ := o0
  rw [types_taker] at h1
  simp only [Option.some.injEq] at h1
  subst h1
  unfold takerV at e
  simp only [Value.agg.injEq] at e
  subst e
  obtain ⟨u, hu, h3⟩ := h2 6 vb rfl
  simp at hu
  subst hu
  unfold Cell.okWide at h3
  rw [Tryd.underlying22] at h3
  intro k hk
  cases vb with
  | slice ao n cap =>
    cases ao with
    | none => simp [own, Value.ownBlock] at hk
    | some a =>
      simp only [Cell.ok, Tryd.underlying22] at h3
      obtain ⟨_, _, _, _, row, cells, h4, _⟩ := h3
      simp [own, Value.ownBlock] at hk
      subst hk
      exact shape_lt h4
  | _ => simp [own, Value.ownBlock] at hk
end Go.Proofs.YtapmhpnkpjgefaaDoor.Con
