/- Parts of the proof, joined: Package subject, walked: Takes, Subject, Filter, Match, Overlap, Covers.; 'is' and 'known', walked; and the laws of filters that hold of the Lean functions.; The frame of a law's row, whatever its parameters: a call that returns true and turns nothing below the heap's old size meets the row's post; and what a reading of an argument tells of the argument's cells. Over any program. -/
import Derived.Test.YtapmhpnkpjgefaaDoorConsumerRulesUptoM1
import Derived.Test.YtapmhpnkpjgefaaDoorConsumerRulesUptoM2
import Derived.Test.YtapmhpnkpjgefaaDoorRows
import Derived.Carry
import Derived.WideKeyArgs
import Derived.SizedLaws
import Derived.OpenShut
namespace Go.Proofs.YtapmhpnkpjgefaaDoor.Subj
open Go.RowKit

/-- A row of texts as a value: empty, whatever its address; or lying somewhere. -/
def Strs (w : World) (v : Value) (l : List Tok) : Prop :=
  ∃ (ao : Option Addr) (cap : Nat), v = .slice ao l.length cap ∧ l.length ≤ cap ∧ (l ≠ [] → ∃ g off, ao = some ⟨g, off, none⟩ ∧ StrsAt w g off l)

theorem takes_step (f s : List Tok) (k : Nat) (hk : k < f.length) : takes (f.drop k) (s.drop k) =
    if f.getD k [] == [62] then decide (k < s.length) else if k < s.length then (f.getD k [] == [42] || f.getD k [] == s.getD k []) && takes (f.drop (k + 1)) (s.drop (k + 1)) else false := by
  have hf : f.drop k = f.getD k [] :: f.drop (k + 1) := by
    rw [List.drop_eq_getElem_cons hk]; simp [List.getD, hk]
  rw [hf]
  generalize f.getD k [] = t
  generalize List.drop (k + 1) f = f'
  by_cases hs : k < s.length
  · have hs' : s.drop k = s.getD k [] :: s.drop (k + 1) := by
      rw [List.drop_eq_getElem_cons hs]; simp [List.getD, hs]
    rw [hs', if_pos hs]
    generalize s.getD k [] = x
    generalize List.drop (k + 1) s = s'
    rw [decide_eq_true hs]
    rfl
  · have hs' : s.drop k = [] := List.drop_of_length_le (by omega)
    rw [hs', if_neg hs, decide_eq_false hs]
    rfl

theorem takes_end (f s : List Tok) (h : f.length ≤ s.length) : takes (f.drop f.length) (s.drop f.length) = decide (f.length = s.length) := by
  rw [List.drop_length]
  simp only [takes]
  rw [Bool.eq_iff_iff]
  simp
  omega

set_option maxRecDepth 100000 in
theorem takes_any (gf gs cf cs : Nat) (f s : List Tok) (w : World) (hf : StrsAt w gf 0 f) (hs : StrsAt w gs 0 s) (hlf : f.length ≤ maxLen) (hls : s.length ≤ maxLen) :
    Calls Tryd.prog 43 #[.slice (some ⟨gf, 0, none⟩) f.length cf, .slice (some ⟨gs, 0, none⟩) s.length cs] w fun e w' => e = .returned (.bool (takes f s)) ∧ w = w' := by
  have HF := Lib.hid hf; have HS := Lib.hid hs
  obtain ⟨n, hn⟩ : ∃ n, f.length = n := ⟨_, rfl⟩
  obtain ⟨m, hm⟩ : ∃ m, s.length = m := ⟨_, rfl⟩
  obtain ⟨r, hr⟩ : ∃ r, takes f s = r := ⟨_, rfl⟩
  rw [hn] at hlf; rw [hm] at hls
  rw [hn, hm, hr]
  unfold maxLen at hlf hls
  have HN := Lib.hid hn; have HM := Lib.hid hm; have HR := Lib.hid hr
  clear hf hs hn hm hr
  go_enter Tryd.func43, Tryd.ntmps43
  go_wp2
  go_loop [9] (fun i => ∃ k : Nat, k ≤ n ∧ k ≤ m ∧ i = .int .i64 k ∧ Hid (takes (f.drop k) (s.drop k) = r)) (fun i => n - (intOf i).toNat)
  case atStart => exact ⟨0, Nat.zero_le _, Nat.zero_le _, rfl, HR⟩
  case round =>
    obtain ⟨k, hk, hkm, rfl, HK⟩ := hrel
    by_cases hlt : k < n
    · have hstep := takes_step f s k (by rw [HN.out]; exact hlt)
      rw [HK.out, HM.out] at hstep
      have HT := Lib.hid hstep; clear hstep
      have hcf := HF.out k (by rw [HN.out]; exact hlt)
      rw [Nat.zero_add] at hcf
      have hl1 := strAt_toList f k
      have HL1 := Lib.hid hl1; clear hl1
      by_cases c1 : f.getD k [] = [62]
      · have d1 : (strAt f k).toList = [62] := by rw [HL1.out, c1]
        have d2 : ((strAt f k).toList == [62]) = true := by simp [d1]
        have hres : decide (k < m) = r := by rw [HT.out, c1]; rfl
        have HRes := Lib.hid hres
        clear c1 hres
        by_cases c2 : k < m
        all_goals
          go_wp2
          go_ret
          exact ⟨ret_bool (by rw [← HRes.out]; simp [c2]), rfl⟩
      · have d1 : ¬ (strAt f k).toList = [62] := by rw [HL1.out]; exact c1
        have d2 : ((strAt f k).toList == [62]) = false := by simp [d1]
        have C1 := Lib.hid c1; clear c1
        by_cases c2 : k < m
        · have hkm' : ((k : Int) == (m : Int)) = false := by simp; omega
          have hcs := HS.out k (by rw [HM.out]; exact c2)
          rw [Nat.zero_add] at hcs
          have hl2 := strAt_toList s k
          have HL2 := Lib.hid hl2; clear hl2
          by_cases c3 : f.getD k [] = [42]
          · have d3 : (strAt f k).toList = [42] := by rw [HL1.out, c3]
            have d4 : ((strAt f k).toList == [42]) = true := by simp [d3]
            have C3 := Lib.hid c3; clear c3
            go_wp2
            refine ⟨⟨k + 1, by omega, by omega, by go_num, ?_⟩, by simp [intOf]; omega⟩
            show _ = _
            rw [HT.out, C3.out, if_neg (by decide), if_pos c2]
            simp
          · have d3 : ¬ (strAt f k).toList = [42] := by rw [HL1.out]; exact c3
            have d4 : ((strAt f k).toList == [42]) = false := by simp [d3]
            have C3 := Lib.hid c3; clear c3
            by_cases c4 : f.getD k [] = s.getD k []
            · have d5 : ((strAt f k).toList == (strAt s k).toList) = true := by rw [HL1.out, HL2.out, c4]; simp
              have d6 : (strAt f k).toList = (strAt s k).toList := by rw [HL1.out, HL2.out, c4]
              have C4 := Lib.hid c4; clear c4
              have D6 := Lib.hid d6; clear d6
              go_wp2
              refine ⟨⟨k + 1, by omega, by omega, by go_num, ?_⟩, by simp [intOf]; omega⟩
              show _ = _
              rw [HT.out, if_neg (by simpa using C1.out), if_pos c2, C4.out]
              simp
            · have d5 : ((strAt f k).toList == (strAt s k).toList) = false := by rw [HL1.out, HL2.out]; simpa using c4
              have C4 := Lib.hid c4; clear c4
              go_wp2
              go_ret
              refine ⟨ret_bool ?_, rfl⟩
              rw [HT.out, if_neg (by simpa using C1.out), if_pos c2, beq_eq_false_iff_ne.2 C3.out, beq_eq_false_iff_ne.2 C4.out]
              rfl
        · obtain rfl : k = m := by omega
          have hkm' : ((k : Int) == (k : Int)) = true := by simp
          go_wp2
          go_ret
          refine ⟨ret_bool ?_, rfl⟩
          rw [HT.out, if_neg (by simpa using C1.out), if_neg c2]
    · obtain rfl : k = n := by omega
      have he := takes_end f s (by rw [HN.out, HM.out]; exact hkm)
      rw [HN.out, HM.out, HK.out] at he
      have HE := Lib.hid he; clear he
      go_wp2
      go_ret
      refine ⟨ret_bool ?_, rfl⟩
      rw [HE.out, Bool.eq_iff_iff]
      simp
      omega

/-! ### Subject, Filter, Match -/

/-- A flag, as a number of an error. -/
theorem subject_any (s : ByteArray) (w : World) (hs : s.size ≤ 1048576) (hm : ML w) :
    Calls Tryd.prog 58 #[.string s] w fun e w' => e = .returned (.int .i64 (err false s.data.toList)) ∧ Below w.heap.size w w' := by
  have h := split_any s false w hs hm
  have HC := Lib.hid h; clear h
  generalize err false s.data.toList = er at *
  generalize pieces s.data.toList = l at *
  go_enter Tryd.func58, Tryd.ntmps58
  go_wp2_with fail
  refine HC.out.mono ?_
  rintro e w' ⟨hb, ⟨rfl, rfl, _⟩ | ⟨h0, rfl⟩⟩
  · go_wp2
    go_ret
    exact ⟨rfl, hb⟩
  · go_wp2
    go_ret
    exact ⟨rfl, hb⟩

theorem filter_any (s : ByteArray) (w : World) (hs : s.size ≤ 1048576) (hm : ML w) :
    Calls Tryd.prog 37 #[.string s] w fun e w' => e = .returned (.int .i64 (err true s.data.toList)) ∧ Below w.heap.size w w' := by
  have h := split_any s true w hs hm
  have HC := Lib.hid h; clear h
  generalize err true s.data.toList = er at *
  generalize pieces s.data.toList = l at *
  go_enter Tryd.func37, Tryd.ntmps37
  go_wp2_with fail
  refine HC.out.mono ?_
  rintro e w' ⟨hb, ⟨rfl, rfl, _⟩ | ⟨h0, rfl⟩⟩
  · go_wp2
    go_ret
    exact ⟨rfl, hb⟩
  · go_wp2
    go_ret
    exact ⟨rfl, hb⟩

/-- What Match answers: the first error, or whether the filter takes the subject. -/
def matchR (f s : List UInt8) : Bool × Nat :=
  if err true f ≠ 0 then (false, err true f) else if err false s ≠ 0 then (false, err false s) else (takes (pieces f) (pieces s), 0)

def beV (x : Bool × Nat) : Value := .tuple #[.bool x.1, .int .i64 x.2]

set_option maxRecDepth 100000 in
theorem match_any (f s : ByteArray) (w : World) (hf : f.size ≤ 1048576) (hs : s.size ≤ 1048576) (hm : ML w) :
    Calls Tryd.prog 25 #[.string f, .string s] w fun e w' => e = .returned (beV (matchR f.data.toList s.data.toList)) ∧ Below w.heap.size w w' := by
  have h1 := split_any f true w hf hm
  have h2 := fun w hm => split_any s false w hs hm
  have hl1 := pieces_size f hf
  have hl2 := pieces_size s hs
  obtain ⟨r, hr⟩ : ∃ r, matchR f.data.toList s.data.toList = r := ⟨_, rfl⟩
  rw [hr]
  unfold matchR at hr
  have H1 := Lib.hid h1; have H2 := Lib.hid h2; have HR := Lib.hid hr
  clear h1 h2 hr
  generalize err true f.data.toList = e1 at *
  generalize err false s.data.toList = e2 at *
  generalize pieces f.data.toList = lf at *
  generalize pieces s.data.toList = ls at *
  have L1 := Lib.hid hl1; have L2 := Lib.hid hl2
  clear hl1 hl2
  go_enter Tryd.func25, Tryd.ntmps25
  go_wp2_with fail
  refine H1.out.mono ?_
  rintro e w1 ⟨hb, ⟨rfl, rfl, hst⟩ | ⟨h0, rfl⟩⟩
  · have HST := Lib.hid hst; clear hst
    have hm1 := Lib.hid (hm.below hb)
    go_wp2_with fail
    refine (H2.out _ hm1.out).mono ?_
    rintro e w2 ⟨hb2, ⟨rfl, rfl, hst2⟩ | ⟨h0, rfl⟩⟩
    · have hstf := HST.out.below hb2
      have HSF := Lib.hid hstf; have HS2 := Lib.hid hst2; clear hstf hst2
      have hbb := hb.trans (hb2.mono hb.size)
      go_wp2_with fail
      refine (takes_any _ _ _ _ lf ls _ HSF.out HS2.out (by have := L1.out; unfold maxLen; omega) (by have := L2.out; unfold maxLen; omega)).mono ?_
      rintro e w' ⟨rfl, rfl⟩
      have hr : r = (takes lf ls, 0) := by rw [← HR.out]; simp
      have HRR := Lib.hid hr
      clear hr
      generalize takes lf ls = tk at *
      go_wp2
      go_ret2
      exact ⟨by rw [HRR.out]; rfl, hbb⟩
    · have h0' : ((e2 : Int) == 0) = false := by simp; omega
      have hbb := hb.trans (hb2.mono hb.size)
      have hr : r = (false, e2) := by rw [← HR.out]; simp [h0]
      have HRR := Lib.hid hr
      clear hr h0
      go_wp2
      go_ret2
      exact ⟨by rw [HRR.out]; rfl, hbb⟩
  · have h0' : ((e1 : Int) == 0) = false := by simp; omega
    have hr : r = (false, e1) := by rw [← HR.out]; simp [h0]
    have HRR := Lib.hid hr
    clear hr h0
    go_wp2
    go_ret2
    exact ⟨by rw [HRR.out]; rfl, hb⟩

end Go.Proofs.YtapmhpnkpjgefaaDoor.Subj

namespace Go.Proofs.YtapmhpnkpjgefaaDoor.Subj
open Go.RowKit

/-- What 'is' makes of an answer. -/
def isB (x : Bool × Nat) : Bool := x.2 == 0 && x.1

set_option maxRecDepth 100000 in
theorem is_match (f g : ByteArray) (w : World) (hf : f.size ≤ 1048576) (hg : g.size ≤ 1048576) (hm : ML w) :
    Calls Tryd.prog 24 #[.func (.func 25) #[] #[], .string f, .string g] w fun e w' => e = .returned (.bool (isB (matchR f.data.toList g.data.toList))) ∧ Below w.heap.size w w' := by
  have hc := match_any f g w hf hg hm
  obtain ⟨b, n, hr⟩ : ∃ b n, matchR f.data.toList g.data.toList = (b, n) := ⟨_, _, rfl⟩
  rw [hr] at hc ⊢
  unfold beV at hc
  have HC := Lib.hid hc; clear hc hr
  by_cases h0 : n = 0
  · subst h0
    go_enter Tryd.func24, Tryd.ntmps24
    go_wp2_with fail
    refine HC.out.mono ?_
    rintro e w' ⟨rfl, hb⟩
    go_wp2
    go_ret
    exact ⟨rfl, hb⟩
  · have h1 : ((n : Int) == 0) = false := by simp; omega
    have h2 : isB (b, n) = false := by unfold isB; simp [h0]
    rw [h2]
    clear h0 h2
    go_enter Tryd.func24, Tryd.ntmps24
    go_wp2_with fail
    refine HC.out.mono ?_
    rintro e w' ⟨rfl, hb⟩
    go_wp2
    go_ret
    exact ⟨rfl, hb⟩

end Go.Proofs.YtapmhpnkpjgefaaDoor.Subj

namespace Go.Proofs.YtapmhpnkpjgefaaDoor
open Go.RowKit

section
open Go.WideShapes Go.ChangeShapes
variable {H : Type} {enc : TypeId × Value → H} {P : Program}

theorem trodAll_stays (hl : laidOutB P = true) {W W' : World} (hb : Below W.heap.size W W') {sp : Nat → Bool} :
    ∀ (ts : List TypeId) (vs : List Value) (ds : List (DataW H)) (ps : List MemPlace), (∀ t ∈ ts, P.readableRec t = true ∧ t < P.types.size) →
      DataW.TrodAll enc P W 0 (fun _ => true) true ts vs ds ps → (∀ x ∈ ps, x.block < W.heap.size) → (∀ x ∈ ps, sp x.block = true) →
      DataW.TrodAll enc P W' 0 sp true ts vs ds ps
  | [], [], [], _, _, h, _, _ => h
  | t :: ts, v :: vs, d :: ds, ps, hr, h, hlt, hsp => by
    obtain ⟨p, q, h1, h2, rfl⟩ := h
    obtain ⟨r1, r2⟩ := hr t (by simp)
    refine ⟨p, q, WideElems.Trod_stays hl r1 r2 h1 (fun x hx => hb.same (hlt x (by simp [hx]))) (fun x hx => hsp x (by simp [hx])), ?_, rfl⟩
    exact trodAll_stays hl hb ts vs ds q (fun t ht => hr t (by simp [ht])) h2 (fun x hx => hlt x (by simp [hx])) (fun x hx => hsp x (by simp [hx]))
  | [], [], _ :: _, _, _, h, _, _ => by cases h
  | [], _ :: _, _, _, _, h, _, _ => by cases h
  | _ :: _, [], _, _, _, h, _, _ => by cases h
  | _ :: _, _ :: _, [], _, _, h, _, _ => by cases h

/-- The law's post: it returned true, its arguments read as they did. -/
theorem post_true {f : Func} {s : ChangeSpec} {apart fresh handsOn again : Bool} {W W' : World} {args : Array Value} {ds gs : List (DataW H)} {before : List MemPlace} {tb : TypeId}
    (hl : laidOutB P = true) (hr : ∀ t ∈ f.params.toList, P.readableRec t = true ∧ t < P.types.size)
    (hres : f.resultTypes = #[tb]) (htb : P.underlying tb = some .bool) (hvars : s.vars = [])
    (hW : DataW.Whole enc P f.params.toList s.vars apart W args.toList ds gs before)
    (hs1 : (s.fn H (ds ++ gs)).results = [.lit (.bool true)]) (hs2 : (s.fn H (ds ++ gs)).args = ds) (hs3 : (s.fn H (ds ++ gs)).vars = [])
    (hb : Below W.heap.size W W') : s.post enc P f apart fresh handsOn again W args (.bool true) W' := by
  have hW0 := hW
  obtain ⟨p, q, hA, hV, rfl, hz, hn⟩ := hW
  rw [hvars] at hV
  obtain ⟨rfl, rfl⟩ := trodVars_none hV
  have hlt : ∀ x ∈ p, x.block < W.heap.size := fun x hx => hW0.lt x (by simp [hx])
  refine post_of_below (pa := p) (pv := []) hW0 (fun _ _ _ => ?_) (fun sp hsp => ?_) (fun _ _ => ?_) rfl hb ?_
  · rw [hs1, hres]
    exact trodAll_cons_mk (shut_bool htb _) trodAll_mk0
  · rw [hs2]
    exact trodAll_stays hl hb _ _ _ _ hr hA hlt (fun x hx => hsp x (by simp [hx]))
  · rw [hs3, hvars]; rfl
  · intro j t r h1 h2
    rw [hres] at h1 h2
    have hj : j = 0 := by
      have := (Array.getElem?_eq_some_iff.1 h1).1
      simpa using this
    subst hj
    simp at h1
    subst h1
    simp [Value.resultList] at h2
    subst h2
    exact okWide_bool_mk htb _
end

/-! ### What a reading tells -/
section
open Go.WideShapes Go.ChangeShapes
variable {H : Type} {enc : TypeId × Value → H} {P : Program} {w : World} {base : Nat} {spare : Nat → Bool} {held : Bool}

theorem rd_int {t : TypeId} {k : IntKind} {fuel : Nat} {cs : List Value} {y : DataW H × List MemPlace} (ht : P.underlying t = some (.int k)) (h : DataW.trod enc P w base spare held fuel t cs = some y) :
    ∃ n, cs = [.int k n] ∧ (Lit.int k n).wf = true := by
  cases fuel with
  | zero => simp [DataW.trod] at h
  | succ n =>
    unfold DataW.trod at h
    rw [ht] at h
    split at h <;> simp_all

theorem rd_string {t : TypeId} {fuel : Nat} {cs : List Value} {y : DataW H × List MemPlace} (ht : P.underlying t = some .string) (h : DataW.trod enc P w base spare held fuel t cs = some y) :
    ∃ s, cs = [.string s] ∧ s.size ≤ maxLen ∧ y.1 = .lit (.string s.data.toList) := by
  cases fuel with
  | zero => simp [DataW.trod] at h
  | succ n =>
    unfold DataW.trod at h
    rw [ht] at h
    split at h <;> simp_all
    obtain ⟨_, rfl⟩ := h
    simp

theorem rd_bool {t : TypeId} {fuel : Nat} {cs : List Value} {y : DataW H × List MemPlace} (ht : P.underlying t = some .bool) (h : DataW.trod enc P w base spare held fuel t cs = some y) :
    ∃ b, cs = [.bool b] := by
  cases fuel with
  | zero => simp [DataW.trod] at h
  | succ n =>
    unfold DataW.trod at h
    rw [ht] at h
    split at h <;> simp_all

/-- A struct, field by field. -/
theorem rd_struct {t : TypeId} {fs : Array Field} {fuel : Nat} {cs : List Value} {y : DataW H × List MemPlace} (ht : P.underlying t = some (.struct fs)) (h : DataW.trod enc P w base spare held fuel t cs = some y) :
    ∃ n, cs.length = P.cellsOf t ∧ ∃ xs : List (DataW H × List MemPlace), y.1 = .agg (xs.map (·.1)) ∧ fs.toList.mapM (fun f => DataW.trod enc P w base spare held n f.type ((cs.drop f.offset).take (P.cellsOf f.type))) = some xs := by
  cases fuel with
  | zero => simp [DataW.trod] at h
  | succ n =>
    unfold DataW.trod at h
    rw [ht] at h
    split at h <;> simp_all
    obtain ⟨xs, h1, h2⟩ := h.2
    exact ⟨n, xs, by rw [← h2], h1⟩

theorem mapM_get {α β : Type} {f : α → Option β} : ∀ {l : List α} {ys : List β}, l.mapM f = some ys → ys.length = l.length ∧ ∀ (i : Nat) (a : α), l[i]? = some a → ∃ y, ys[i]? = some y ∧ f a = some y
  | [], ys, h => by
    simp at h; subst h; simp
  | a :: l, ys, h => by
    rw [List.mapM_cons] at h
    cases ha : f a with
    | none => rw [ha] at h; cases h
    | some b =>
      rw [ha] at h
      cases hl : l.mapM f with
      | none => rw [hl] at h; cases h
      | some bs =>
        rw [hl] at h
        have e : b :: bs = ys := by simpa using h
        subst e
        obtain ⟨h1, h2⟩ := mapM_get hl
        refine ⟨by simp [h1], fun i x hx => ?_⟩
        cases i with
        | zero => simp at hx; subst hx; exact ⟨b, rfl, ha⟩
        | succ i => exact h2 i x (by simpa using hx)

/-- A slice: nil, or its elements up to the capacity. -/
theorem rd_slice {t e : TypeId} {fuel : Nat} {cs : List Value} {y : DataW H × List MemPlace} (ht : P.underlying t = some (.slice e)) (h : DataW.trod enc P w base (fun _ => true) held fuel t cs = some y) :
    (cs = [.slice none 0 0] ∧ y.1 = .nil) ∨ ∃ a len cap n, cs = [.slice (some a) len cap] ∧ len ≤ cap ∧ cap ≤ maxLen ∧ ∃ elems rest : List (DataW H × List MemPlace), y.1 = .slice (elems.map (·.1)) (rest.map (·.1)) ∧ elems.length = len ∧ rest.length = cap - len ∧
      (∀ i, i < len → ∃ z, elems[i]? = some z ∧ (w.cells? base (a.add (i * P.cellsOf e)) (P.cellsOf e)).bind (DataW.trod enc P w base (fun _ => true) held n e) = some z) ∧
      (∀ i, i < cap - len → ∃ z, rest[i]? = some z ∧ (w.cells? base (a.add ((len + i) * P.cellsOf e)) (P.cellsOf e)).bind (DataW.trod enc P w base (fun _ => true) held n e) = some z) := by
  cases fuel with
  | zero => simp [DataW.trod] at h
  | succ n =>
    unfold DataW.trod at h
    rw [ht] at h
    split at h <;> first | (exfalso; simp_all; done) | simp_all
    · rw [← h]
    · obtain ⟨⟨hb, hlc, hcm⟩, hh⟩ := h
      rw [Option.bind_eq_some_iff] at hh
      obtain ⟨elems, he, hr'⟩ := hh
      rw [Option.map_eq_some_iff] at hr'
      obtain ⟨rest, hr, hy⟩ := hr'
      obtain ⟨l1, g1⟩ := mapM_get he
      obtain ⟨l2, g2⟩ := mapM_get hr
      refine ⟨_, _, _, ⟨rfl, rfl, rfl⟩, hlc, hcm, n, elems, rest, by rw [← hy], by simpa using l1, by simpa using l2, fun i hi => ?_, fun i hi => ?_⟩
      · obtain ⟨y, h1, h2⟩ := g1 i i (by simp [hi])
        exact ⟨y.1, y.2, h1, h2⟩
      · obtain ⟨y, h1, h2⟩ := g2 i i (by simp [hi])
        exact ⟨y.1, y.2, h1, h2⟩
end

end Go.Proofs.YtapmhpnkpjgefaaDoor
