/- The reader of a consumer's text: take, number, from, ack, walked. -/
import Derived.Test.YtglgbidcmkncgaaDoorTakeMem
namespace Go.Proofs.YtglgbidcmkncgaaDoor.Subj
open Go.RowKit

theorem two {B : Nat} {w : World} {t : TypeId} {a0 a1 : Value} (h : w.heap[B]? = some (.cells #[a0, a1] t (0, 0))) :
    w.cell? ⟨B, 0, none⟩ = some a0 ∧ w.cell? ⟨B, 1, none⟩ = some a1 ∧ ∀ j, w.frozen? ⟨B, j, none⟩ = false :=
  ⟨cell_of_row w B 0 _ _ (0, 0) h, cell_of_row w B 1 _ _ (0, 0) h, fun j => by simp [World.frozen?, h]⟩

set_option maxHeartbeats 1000000 in
set_option maxRecDepth 100000 in
theorem take_end (R g o : Nat) (ok : Bool) (hd : ByteArray) (w : World) (hr : w.heap[R]? = some (.cells #[.slice (some ⟨g, o, none⟩) 0 0, .bool ok] 104 (0, 0))) :
    Calls Tryd.prog 67 #[.pointer (some ⟨R, 0, none⟩), .string hd] w fun e w' => e = .returned (.tuple #[.string ⟨#[]⟩, .bool false]) ∧ w' = w := by
  obtain ⟨y0, y1, yf⟩ := two hr
  clear hr
  go_enter Tryd.func67, Tryd.ntmps67
  go_wp2
  go_ret2
  exact ⟨rfl, rfl⟩

set_option maxHeartbeats 1000000 in
set_option maxRecDepth 100000 in
theorem take_no (R g o n : Nat) (ok : Bool) (t hd : ByteArray) (w : World) (hr : w.heap[R]? = some (.cells #[.slice (some ⟨g, o, none⟩) (n + 1) (n + 1), .bool ok] 104 (0, 0))) (hst : w.cell? ⟨g, o, none⟩ = some (.string t)) (hp : hd.data.toList.isPrefixOf t.data.toList = false) :
    Calls Tryd.prog 67 #[.pointer (some ⟨R, 0, none⟩), .string hd] w fun e w' => (∃ v, e = .returned (.tuple #[.string v, .bool false])) ∧ w' = w := by
  obtain ⟨y0, y1, yf⟩ := two hr
  have HC := cutPrefix_any t hd w
  rw [hp] at HC
  have HC := Lib.hid HC
  clear hr hp
  generalize Lib.trimPrefix t.data.toList hd.data.toList = z at *
  have h0 : (((n : Int) + 1) == 0) = false := by rw [beq_eq_false_iff_ne]; omega
  have h1 : (0 : Int) < (n : Int) + 1 := by omega
  go_enter Tryd.func67, Tryd.ntmps67
  go_wp2_with (go_at_call 57; refine HC.out.mono ?_; rintro e w' ⟨rfl, rfl⟩)
  go_ret2
  exact ⟨⟨_, rfl⟩, rfl⟩

set_option maxHeartbeats 1000000 in
set_option maxRecDepth 100000 in
theorem take_yes (R g o n : Nat) (ok : Bool) (t hd : ByteArray) (w : World) (hr : w.heap[R]? = some (.cells #[.slice (some ⟨g, o, none⟩) (n + 1) (n + 1), .bool ok] 104 (0, 0))) (hst : w.cell? ⟨g, o, none⟩ = some (.string t)) (hp : hd.data.toList.isPrefixOf t.data.toList = true) :
    Calls Tryd.prog 67 #[.pointer (some ⟨R, 0, none⟩), .string hd] w fun e w' => e = .returned (.tuple #[.string ⟨(t.data.toList.drop hd.data.toList.length).toArray⟩, .bool true]) ∧ ∃ o', (0 < n → o' = o + 1) ∧ w' = w.setCell ⟨R, 0, none⟩ (.slice (some ⟨g, o', none⟩) n n) := by
  obtain ⟨y0, y1, yf⟩ := two hr
  have HC := cutPrefix_any t hd w
  rw [hp, trim_yes hp] at HC
  have HC := Lib.hid HC
  clear hr hp
  generalize t.data.toList.drop hd.data.toList.length = z at *
  have h0 : (((n : Int) + 1) == 0) = false := by rw [beq_eq_false_iff_ne]; omega
  have h1 : (0 : Int) < (n : Int) + 1 := by omega
  have h2 : (1 : Int) ≤ (n : Int) + 1 := by omega
  go_enter Tryd.func67, Tryd.ntmps67
  go_wp2_with (go_at_call 57; refine HC.out.mono ?_; rintro e w' ⟨rfl, rfl⟩)
  · go_ret2
    exact ⟨rfl, o, rfl⟩
  · go_ret2
    exact ⟨rfl, o + 1, fun _ => rfl, rfl⟩

/-- What 'take' answers, and what it leaves. -/
def TakeIs (W : World) (B T R g : Nat) (r : List Tok) (ok : Bool) (arr : Array Value) (vb : Value) (back : List Int) (hd : Tok) (e : Ending) (w' : World) : Prop :=
  (∃ x r', r = x :: r' ∧ hd.isPrefixOf x = true ∧ e = .returned (.tuple #[.string ⟨(x.drop hd.length).toArray⟩, .bool true]) ∧ TW W B T R g r' ok arr vb back w') ∨
  ((∀ x r', r = x :: r' → hd.isPrefixOf x = false) ∧ (∃ v, e = .returned (.tuple #[.string v, .bool false])) ∧ TW W B T R g r ok arr vb back w')

theorem take_tw {W : World} {B T R g : Nat} {r : List Tok} {ok : Bool} {arr : Array Value} {vb : Value} {back : List Int} {w : World} (hd : ByteArray) (h : TW W B T R g r ok arr vb back w) :
    Calls Tryd.prog 67 #[.pointer (some ⟨R, 0, none⟩), .string hd] w (TakeIs W B T R g r ok arr vb back hd.data.toList) := by
  obtain ⟨off, hc, hTR, hr⟩ := id h
  cases r with
  | nil =>
    refine (take_end R g off ok hd w hr).mono ?_
    rintro e w' ⟨rfl, rfl⟩
    exact .inr ⟨fun x r' e => (by cases e), ⟨_, rfl⟩, h⟩
  | cons x r =>
    have c0 := hc.rest 0 (by simp)
    have hx : strAt (x :: r) 0 = ⟨x.toArray⟩ := rfl
    rw [hx] at c0
    cases hp : hd.data.toList.isPrefixOf x with
    | true =>
      refine (take_yes R g off r.length ok ⟨x.toArray⟩ hd w hr c0 hp).mono ?_
      rintro e w' ⟨rfl, o', ho, rfl⟩
      exact .inl ⟨x, r, rfl, hp, rfl, TW.setR ⟨off, hc, hTR, hr, ho⟩⟩
    | false =>
      refine (take_no R g off r.length ok ⟨x.toArray⟩ hd w hr c0 hp).mono ?_
      rintro e w' ⟨hv, rfl⟩
      exact .inr ⟨fun y r' e => (by simp only [List.cons.injEq] at e; rw [← e.1]; exact hp), hv, h⟩

set_option maxHeartbeats 1000000 in
set_option maxRecDepth 100000 in
theorem number_r (R : Nat) (v : Value) (ok : Bool) (s : ByteArray) (w : World) (hs : s.size ≤ maxLen) (hr : w.heap[R]? = some (.cells #[v, .bool ok] 104 (0, 0))) (hv : v.oneCell' = true) :
    Calls Tryd.prog 68 #[.pointer (some ⟨R, 0, none⟩), .string s] w fun e w' => e = .returned (.int .i64 (numberOf s.data.toList)) ∧ w' = w.setCell ⟨R, 1, none⟩ (.bool (ok && decide (0 < numberOf s.data.toList))) := by
  obtain ⟨y0, y1, yf⟩ := two hr
  have HC := Lib.hid (number_any s w hs)
  clear hr hs
  generalize numberOf s.data.toList = z at *
  by_cases hz : 0 < z
  · have d : decide (0 < z) = true := by simp [hz]
    rw [d]
    clear d
    cases ok
    all_goals
      go_enter Tryd.func68, Tryd.ntmps68
      go_wp2_with (go_at_call 58; refine HC.out.mono ?_; rintro e w' ⟨rfl, rfl⟩)
      go_ret
      first | exact ⟨rfl, rfl⟩ | exact ⟨rfl, by rw [decide_eq_false (show ¬ 0 < z by omega)]; rfl⟩
  · have d : decide (0 < z) = false := by simp [hz]
    rw [d]
    clear d
    cases ok
    all_goals
      go_enter Tryd.func68, Tryd.ntmps68
      go_wp2_with (go_at_call 58; refine HC.out.mono ?_; rintro e w' ⟨rfl, rfl⟩)
      go_ret
      first | exact ⟨rfl, rfl⟩ | exact ⟨rfl, by rw [decide_eq_false (show ¬ 0 < z by omega)]; rfl⟩

theorem number_tw {W : World} {B T R g : Nat} {r : List Tok} {ok : Bool} {arr : Array Value} {vb : Value} {back : List Int} {w : World} (s : ByteArray) (hs : s.size ≤ maxLen) (h : TW W B T R g r ok arr vb back w) :
    Calls Tryd.prog 68 #[.pointer (some ⟨R, 0, none⟩), .string s] w fun e w' => e = .returned (.int .i64 (numberOf s.data.toList)) ∧ TW W B T R g r (ok && decide (0 < numberOf s.data.toList)) arr vb back w' := by
  obtain ⟨off, hc, hTR, hr⟩ := id h
  exact (number_r R _ ok s w hs hr rfl).mono fun e w' ⟨a, b⟩ => ⟨a, by rw [b]; exact h.setOk _⟩

/-- The cells of a plan. -/
abbrev tCells (name filt : ByteArray) (src start ack wait : Int) (vb : Value) (most pend : Int) (push : Bool) : Array Value :=
  #[.string name, .string filt, .int .i64 src, .int .i64 start, .int .i64 ack, .int .i64 wait, vb, .int .i64 most, .int .i64 pend, .bool push]

theorem text_is {v : Tok} {V : ByteArray} (hV : V = ⟨v.toArray⟩) : V.toList = v ∧ V.data.toList = v := by
  subst hV
  exact ⟨by rw [ByteArray.toList_eq], rfl⟩

theorem opt0_last (t : TakerP) : optT 0 lastW t = some { t with src := 1 } := rfl
theorem opt0_new (t : TakerP) : optT 0 newW t = some { t with src := 2 } := rfl
theorem opt0_num {v : Tok} (t : TakerP) (h1 : v ≠ lastW) (h2 : v ≠ newW) (h3 : 0 < numberOf v) : optT 0 v t = some { t with src := 3, start := numberOf v } := by
  show (if v = lastW then _ else _) = _
  rw [if_neg h1, if_neg h2, if_pos h3]
theorem opt0_bad {v : Tok} (t : TakerP) (h1 : v ≠ lastW) (h2 : v ≠ newW) (h3 : ¬ 0 < numberOf v) : optT 0 v t = none := by
  show (if v = lastW then _ else _) = _
  rw [if_neg h1, if_neg h2, if_neg h3]
theorem opt1_none (t : TakerP) : optT 1 noneW t = some { t with ack := 0 } := rfl
theorem opt1_all (t : TakerP) : optT 1 allW t = some { t with ack := 1 } := rfl
theorem opt1_bad {v : Tok} (t : TakerP) (h1 : v ≠ noneW) (h2 : v ≠ allW) : optT 1 v t = none := by
  show (if v = noneW then _ else _) = _
  rw [if_neg h1, if_neg h2]

set_option maxHeartbeats 4000000 in
set_option maxRecDepth 100000 in
theorem from_tw {W : World} {B T R g : Nat} {r : List Tok} {ok : Bool} {name filt : ByteArray} {src start ack wait : Int} {vb : Value} {most pend : Int} {push : Bool} {back : List Int} {w : World} {E : Option TakerP} {tn tf : List UInt8} {ta : Int}
    (hl : ∀ x ∈ r, x.length ≤ 1024) (h : TW W B T R g r ok (tCells name filt src start ack wait vb most pend push) vb back w) (hE : Good E 0 r ⟨tn, tf, src, start, ta, wait, back, most, pend, push⟩ ok) :
    Calls Tryd.prog 65 #[.pointer (some ⟨R, 0, none⟩), .pointer (some ⟨T, 0, none⟩)] w fun e w' => e = .returned (.tuple #[]) ∧
      ∃ src' start' r' ok', (∀ x ∈ r', x.length ≤ 1024) ∧ TW W B T R g r' ok' (tCells name filt src' start' ack wait vb most pend push) vb back w' ∧ Good E 1 r' ⟨tn, tf, src', start', ta, wait, back, most, pend, push⟩ ok' := by
  have HT := Lib.hid (take_tw ⟨#[102, 114, 111, 109, 61]⟩ h)
  have HE := Lib.hid hE; have HL := Lib.hid hl
  clear h hE hl
  go_enter Tryd.func65, Tryd.ntmps65
  go_wp2_with fail
  refine HT.out.mono ?_
  rintro e w' (⟨x, r', rfl, hp, rfl, h2⟩ | ⟨hn, ⟨v, rfl⟩, h2⟩)
  · have HP := Lib.hid (show (heads.getD 0 []).isPrefixOf x = true from hp)
    have H2 := Lib.hid h2
    have hl2 : ∀ y ∈ r', y.length ≤ 1024 := fun y hy => HL.out y (by simp [hy])
    have HL2 := Lib.hid hl2
    have hx := HL.out x (by simp)
    have hz : (x.drop 5).length ≤ 1024 := by rw [List.length_drop]; omega
    obtain ⟨v, hv⟩ : ∃ v, x.drop 5 = v := ⟨_, rfl⟩
    have hv' : x.drop (heads.getD 0 []).length = v := hv
    have HV := Lib.hid hv'
    rw [hv] at hz
    have h5 : (⟨#[102, 114, 111, 109, 61]⟩ : ByteArray).data.toList.length = 5 := rfl
    rw [h5, hv]
    obtain ⟨V, hV⟩ : ∃ V : ByteArray, V = ⟨v.toArray⟩ := ⟨_, rfl⟩
    obtain ⟨hV1, hV2⟩ := text_is hV
    have hsz : V.size ≤ maxLen := by rw [hV]; unfold maxLen; show v.toArray.size ≤ _; rw [List.size_toArray]; omega
    rw [← hV]
    have HN := Lib.hid (number_tw V hsz h2)
    rw [hV2] at HN
    clear hp h2 hl2 hx hv hv' h5 HT hV hz hsz HL
    cases h1 : (V.toList == [108, 97, 115, 116]) with
    | true =>
      have hv1 : v = lastW := by rw [hV1] at h1; simpa [lastW] using h1
      have HG := Lib.hid (Good.some HE.out (by decide) HP.out (by rw [HV.out, hv1]; exact opt0_last _))
      clear hv1 hV1 hV2 HE HN
      have hh := H2.out
      obtain ⟨off, hc, hTR, hr⟩ := id hh
      obtain ⟨y0, y1, y2, y3, y4, y5, y6, y7, y8, y9, yf⟩ := ten hc.cells
      clear hh hc hr
      go_wp2
      go_end0
      exact ⟨rfl, _, _, _, _, HL2.out, H2.out.setT 2 (.int .i64 1), HG.out⟩
    | false =>
      have hv1 : v ≠ lastW := by rw [hV1] at h1; simpa [lastW] using h1
      cases h2 : (V.toList == [110, 101, 119]) with
      | true =>
        have hv2 : v = newW := by rw [hV1] at h2; simpa [newW] using h2
        have HG := Lib.hid (Good.some HE.out (by decide) HP.out (by rw [HV.out, hv2]; exact opt0_new _))
        clear hv1 hv2 hV1 hV2 HE HN
        have hh := H2.out
        obtain ⟨off, hc, hTR, hr⟩ := id hh
        obtain ⟨y0, y1, y2, y3, y4, y5, y6, y7, y8, y9, yf⟩ := ten hc.cells
        clear hh hc hr
        go_wp2
        go_end0
        exact ⟨rfl, _, _, _, _, HL2.out, H2.out.setT 2 (.int .i64 2), HG.out⟩
      | false =>
        have hv2 : v ≠ newW := by rw [hV1] at h2; simpa [newW] using h2
        have hG : Good E 1 r' ⟨tn, tf, 3, numberOf v, ta, wait, back, most, pend, push⟩ (ok && decide (0 < numberOf v)) := by
          by_cases h3 : 0 < numberOf v
          · rw [decide_eq_true h3, Bool.and_true]
            exact Good.some HE.out (by decide) HP.out (by rw [HV.out]; exact opt0_num _ hv1 hv2 h3)
          · rw [decide_eq_false h3, Bool.and_false]
            exact Good.none HE.out (by decide) HP.out (by rw [HV.out]; exact opt0_bad _ hv1 hv2 h3) _
        have HG := Lib.hid hG
        clear hv1 hv2 hV1 hV2 HE hG H2
        go_wp2_with fail
        refine HN.out.mono ?_
        rintro e w2 ⟨rfl, h3⟩
        have H3 := Lib.hid h3
        obtain ⟨off, hc, hTR, hr⟩ := id h3
        obtain ⟨y0, y1, y2, y3, y4, y5, y6, y7, y8, y9, yf⟩ := ten hc.cells
        clear h3 hc hr HN
        go_wp2
        go_end0
        exact ⟨rfl, _, _, _, _, HL2.out, (H3.out.setT 2 (.int .i64 3)).setT 3 (.int .i64 (numberOf v)), HG.out⟩
  · have H2 := Lib.hid h2
    have HG := Lib.hid (Good.no HE.out (by decide) hn)
    clear h2 HT HE
    go_wp2
    go_end0
    exact ⟨rfl, _, _, _, _, HL.out, H2.out, HG.out⟩

set_option maxHeartbeats 4000000 in
set_option maxRecDepth 100000 in
theorem ack_tw {W : World} {B T R g : Nat} {r : List Tok} {ok : Bool} {name filt : ByteArray} {src start wait : Int} {vb : Value} {most pend : Int} {push : Bool} {back : List Int} {w : World} {E : Option TakerP} {tn tf : List UInt8}
    (hl : ∀ x ∈ r, x.length ≤ 1024) (h : TW W B T R g r ok (tCells name filt src start 0 wait vb most pend push) vb back w) (hE : Good E 1 r ⟨tn, tf, src, start, 2, wait, back, most, pend, push⟩ ok) :
    Calls Tryd.prog 66 #[.pointer (some ⟨R, 0, none⟩), .pointer (some ⟨T, 0, none⟩)] w fun e w' => e = .returned (.tuple #[]) ∧
      ∃ ack' r' ok', (∀ x ∈ r', x.length ≤ 1024) ∧ TW W B T R g r' ok' (tCells name filt src start ack' wait vb most pend push) vb back w' ∧ Good E 2 r' ⟨tn, tf, src, start, ack', wait, back, most, pend, push⟩ ok' := by
  have HT := Lib.hid (take_tw ⟨#[97, 99, 107, 61]⟩ h)
  have HE := Lib.hid hE; have HL := Lib.hid hl
  clear h hE hl
  go_enter Tryd.func66, Tryd.ntmps66
  go_wp2_with fail
  refine HT.out.mono ?_
  rintro e w' (⟨x, r', rfl, hp, rfl, h2⟩ | ⟨hn, ⟨v, rfl⟩, h2⟩)
  · have HP := Lib.hid (show (heads.getD 1 []).isPrefixOf x = true from hp)
    have H2 := Lib.hid h2
    have hl2 : ∀ y ∈ r', y.length ≤ 1024 := fun y hy => HL.out y (by simp [hy])
    have HL2 := Lib.hid hl2
    obtain ⟨v, hv⟩ : ∃ v, x.drop 4 = v := ⟨_, rfl⟩
    have hv' : x.drop (heads.getD 1 []).length = v := hv
    have HV := Lib.hid hv'
    have h5 : (⟨#[97, 99, 107, 61]⟩ : ByteArray).data.toList.length = 4 := rfl
    rw [h5, hv]
    obtain ⟨V, hV⟩ : ∃ V : ByteArray, V = ⟨v.toArray⟩ := ⟨_, rfl⟩
    obtain ⟨hV1, hV2⟩ := text_is hV
    rw [← hV]
    obtain ⟨off, hc, hTR, hr⟩ := id h2
    obtain ⟨y0, y1, y2, y3, y4, y5, y6, y7, y8, y9, yf⟩ := ten hc.cells
    obtain ⟨z0, z1, zf⟩ := two hr
    clear hp h2 hl2 hv hv' h5 HT hV HL hc hr
    cases h1 : (V.toList == [110, 111, 110, 101]) with
    | true =>
      have hv1 : v = noneW := by rw [hV1] at h1; simpa [noneW] using h1
      have HG := Lib.hid (Good.some HE.out (by decide) HP.out (by rw [HV.out, hv1]; exact opt1_none _))
      clear hv1 hV1 hV2 HE
      go_wp2
      go_end0
      exact ⟨rfl, _, _, _, HL2.out, H2.out.setT 4 (.int .i64 0), HG.out⟩
    | false =>
      have hv1 : v ≠ noneW := by rw [hV1] at h1; simpa [noneW] using h1
      cases h2 : (V.toList == [97, 108, 108]) with
      | true =>
        have hv2 : v = allW := by rw [hV1] at h2; simpa [allW] using h2
        have HG := Lib.hid (Good.some HE.out (by decide) HP.out (by rw [HV.out, hv2]; exact opt1_all _))
        clear hv1 hv2 hV1 hV2 HE
        go_wp2
        go_end0
        exact ⟨rfl, _, _, _, HL2.out, H2.out.setT 4 (.int .i64 1), HG.out⟩
      | false =>
        have hv2 : v ≠ allW := by rw [hV1] at h2; simpa [allW] using h2
        have HG := Lib.hid (Good.none HE.out (by decide) HP.out (by rw [HV.out]; exact opt1_bad _ hv1 hv2) ⟨tn, tf, src, start, 0, wait, back, most, pend, push⟩)
        clear hv1 hv2 hV1 hV2 HE
        go_wp2
        go_end0
        exact ⟨rfl, _, _, _, HL2.out, H2.out.setOk false, HG.out⟩
  · have H2 := Lib.hid h2
    have HG := Lib.hid (Good.no HE.out (by decide) hn)
    obtain ⟨off, hc, hTR, hr⟩ := id h2
    obtain ⟨y0, y1, y2, y3, y4, y5, y6, y7, y8, y9, yf⟩ := ten hc.cells
    clear h2 HT HE hc hr
    go_wp2
    go_end0
    exact ⟨rfl, _, _, _, HL.out, H2.out.setT 4 (.int .i64 2), HG.out⟩
end Go.Proofs.YtglgbidcmkncgaaDoor.Subj
