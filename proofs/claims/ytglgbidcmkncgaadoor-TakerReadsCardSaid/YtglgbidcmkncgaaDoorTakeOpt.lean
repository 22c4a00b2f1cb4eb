/- rillref.option, walked. -/
import Derived.Test.YtglgbidcmkncgaaDoorTakeBack
import Derived.Test.YtglgbidcmkncgaaDoorPlanRead2
import Derived.Deep.RegionHeld3
import Derived.Deep.RegionLaw
namespace Go.Proofs.YtglgbidcmkncgaaDoor.Subj
open Go.RowKit

/-- What an option leaves. -/
def OptPost (W : World) (B T R g off : Nat) (r : List Tok) (nb fb : ByteArray) (i : Nat) (v : ByteArray) (t : TakerP) (w0 : World) (e : Ending) (w : World) : Prop :=
  Heap.Touch (fun k => k = T ∨ R < k) w0 w ∧ ∃ b, e = .returned (.bool b) ∧ ∃ src start ack wait vb back most pend push, TC W B T R g off r (tCells nb fb src start ack wait vb most pend push) vb back w ∧
    (b = true → optT i v.data.toList t = some ⟨t.name, t.filt, src, start, ack, wait, back, most, pend, push⟩) ∧ (b = false → optT i v.data.toList t = none) ∧ (i < 3 → back = [] ∧ vb = .slice none 0 0)

theorem ot1 {T R j : Nat} {w : World} {u : Value} : Heap.Touch (fun k => k = T ∨ R < k) w (w.setCell ⟨T, j, none⟩ u) := (Heap.Touch.refl _ w).setCell (.inl (.inl rfl)) u
theorem ot2 {T R j j2 : Nat} {w : World} {u u2 : Value} : Heap.Touch (fun k => k = T ∨ R < k) w ((w.setCell ⟨T, j, none⟩ u).setCell ⟨T, j2, none⟩ u2) := ((Heap.Touch.refl _ w).setCell (.inl (.inl rfl)) u).setCell (.inl (.inl rfl)) u2

set_option maxHeartbeats 2000000 in
set_option maxRecDepth 100000 in
theorem option_2 {W : World} {B T R g off : Nat} {r : List Tok} {nb fb : ByteArray} {src start ack wait : Int} {vb : Value} {back : List Int} {most pend : Int} {push : Bool} {w : World} (tn tf : List UInt8) (v : ByteArray) (hv : v.size ≤ 1024)
    (h : TC W B T R g off r (tCells nb fb src start ack wait vb most pend push) vb back w) (hb : 2 ≤ 3 → back = [] ∧ vb = .slice none 0 0) :
    Calls Tryd.prog 69 #[.pointer (some ⟨T, 0, none⟩), .int .i64 2, .string v] w (OptPost W B T R g off r nb fb 2 v ⟨tn, tf, src, start, ack, wait, back, most, pend, push⟩ w) := by
  have HD := Lib.hid (digits_any v w (by unfold maxLen; omega))
  have HC := Lib.hid h; have HBK := Lib.hid hb
  obtain ⟨y0, y1, y2, y3, y4, y5, y6, y7, y8, y9, yf⟩ := ten h.cells
  clear h hb
  by_cases h3 : 0 < numberOf v.data.toList
  · have HO := Lib.hid (show optT 2 v.data.toList ⟨tn, tf, src, start, ack, wait, back, most, pend, push⟩ = some _ from if_pos h3)
    generalize numberOf v.data.toList = z at *
    go_enter Tryd.func69, Tryd.ntmps69
    go_wp2_with (go_at_call 61; refine HD.out.mono ?_; rintro e w' ⟨rfl, rfl⟩)
    go_ret
    have hb := HBK.out
    exact ⟨by first | exact ot1 | exact ot2, true, rfl, src, start, ack, z, vb, back, most, pend, push, HC.out.setT 5 _, fun _ => HO.out, fun e => (by cases e), fun _ => hb (by decide)⟩
  · have HO := Lib.hid (show optT 2 v.data.toList ⟨tn, tf, src, start, ack, wait, back, most, pend, push⟩ = none from if_neg h3)
    generalize numberOf v.data.toList = z at *
    go_enter Tryd.func69, Tryd.ntmps69
    go_wp2_with (go_at_call 61; refine HD.out.mono ?_; rintro e w' ⟨rfl, rfl⟩)
    go_ret
    have hb := HBK.out
    exact ⟨by first | exact ot1 | exact ot2, false, ret_bool (decide_eq_false (show ¬ 0 < z by omega)), src, start, ack, z, vb, back, most, pend, push, HC.out.setT 5 _, fun e => (by cases e), fun _ => HO.out, fun _ => hb (by decide)⟩

set_option maxHeartbeats 2000000 in
set_option maxRecDepth 100000 in
theorem option_4 {W : World} {B T R g off : Nat} {r : List Tok} {nb fb : ByteArray} {src start ack wait : Int} {vb : Value} {back : List Int} {most pend : Int} {push : Bool} {w : World} (tn tf : List UInt8) (v : ByteArray) (hv : v.size ≤ 1024)
    (h : TC W B T R g off r (tCells nb fb src start ack wait vb most pend push) vb back w) (hb : 4 ≤ 3 → back = [] ∧ vb = .slice none 0 0) :
    Calls Tryd.prog 69 #[.pointer (some ⟨T, 0, none⟩), .int .i64 4, .string v] w (OptPost W B T R g off r nb fb 4 v ⟨tn, tf, src, start, ack, wait, back, most, pend, push⟩ w) := by
  have HD := Lib.hid (digits_any v w (by unfold maxLen; omega))
  have HC := Lib.hid h; have HBK := Lib.hid hb
  obtain ⟨y0, y1, y2, y3, y4, y5, y6, y7, y8, y9, yf⟩ := ten h.cells
  clear h hb
  by_cases h3 : 0 < numberOf v.data.toList
  · have HO := Lib.hid (show optT 4 v.data.toList ⟨tn, tf, src, start, ack, wait, back, most, pend, push⟩ = some _ from if_pos h3)
    generalize numberOf v.data.toList = z at *
    go_enter Tryd.func69, Tryd.ntmps69
    go_wp2_with (go_at_call 61; refine HD.out.mono ?_; rintro e w' ⟨rfl, rfl⟩)
    go_ret
    have hb := HBK.out
    exact ⟨by first | exact ot1 | exact ot2, true, rfl, src, start, ack, wait, vb, back, z, pend, push, HC.out.setT 7 _, fun _ => HO.out, fun e => (by cases e), fun h => absurd h (by decide)⟩
  · have HO := Lib.hid (show optT 4 v.data.toList ⟨tn, tf, src, start, ack, wait, back, most, pend, push⟩ = none from if_neg h3)
    generalize numberOf v.data.toList = z at *
    go_enter Tryd.func69, Tryd.ntmps69
    go_wp2_with (go_at_call 61; refine HD.out.mono ?_; rintro e w' ⟨rfl, rfl⟩)
    go_ret
    have hb := HBK.out
    exact ⟨by first | exact ot1 | exact ot2, false, ret_bool (decide_eq_false (show ¬ 0 < z by omega)), src, start, ack, wait, vb, back, z, pend, push, HC.out.setT 7 _, fun e => (by cases e), fun _ => HO.out, fun h => absurd h (by decide)⟩

set_option maxHeartbeats 2000000 in
set_option maxRecDepth 100000 in
theorem option_5 {W : World} {B T R g off : Nat} {r : List Tok} {nb fb : ByteArray} {src start ack wait : Int} {vb : Value} {back : List Int} {most pend : Int} {push : Bool} {w : World} (tn tf : List UInt8) (v : ByteArray) (hv : v.size ≤ 1024)
    (h : TC W B T R g off r (tCells nb fb src start ack wait vb most pend push) vb back w) (hb : 5 ≤ 3 → back = [] ∧ vb = .slice none 0 0) :
    Calls Tryd.prog 69 #[.pointer (some ⟨T, 0, none⟩), .int .i64 5, .string v] w (OptPost W B T R g off r nb fb 5 v ⟨tn, tf, src, start, ack, wait, back, most, pend, push⟩ w) := by
  have HD := Lib.hid (digits_any v w (by unfold maxLen; omega))
  have HC := Lib.hid h; have HBK := Lib.hid hb
  obtain ⟨y0, y1, y2, y3, y4, y5, y6, y7, y8, y9, yf⟩ := ten h.cells
  clear h hb
  by_cases h3 : 0 < numberOf v.data.toList
  · have HO := Lib.hid (show optT 5 v.data.toList ⟨tn, tf, src, start, ack, wait, back, most, pend, push⟩ = some _ from if_pos h3)
    generalize numberOf v.data.toList = z at *
    go_enter Tryd.func69, Tryd.ntmps69
    go_wp2_with (go_at_call 61; refine HD.out.mono ?_; rintro e w' ⟨rfl, rfl⟩)
    go_ret
    have hb := HBK.out
    exact ⟨by first | exact ot1 | exact ot2, true, rfl, src, start, ack, wait, vb, back, most, z, push, HC.out.setT 8 _, fun _ => HO.out, fun e => (by cases e), fun h => absurd h (by decide)⟩
  · have HO := Lib.hid (show optT 5 v.data.toList ⟨tn, tf, src, start, ack, wait, back, most, pend, push⟩ = none from if_neg h3)
    generalize numberOf v.data.toList = z at *
    go_enter Tryd.func69, Tryd.ntmps69
    go_wp2_with (go_at_call 61; refine HD.out.mono ?_; rintro e w' ⟨rfl, rfl⟩)
    go_ret
    have hb := HBK.out
    exact ⟨by first | exact ot1 | exact ot2, false, ret_bool (decide_eq_false (show ¬ 0 < z by omega)), src, start, ack, wait, vb, back, most, z, push, HC.out.setT 8 _, fun e => (by cases e), fun _ => HO.out, fun h => absurd h (by decide)⟩

set_option maxHeartbeats 2000000 in
set_option maxRecDepth 100000 in
theorem option_0 {W : World} {B T R g off : Nat} {r : List Tok} {nb fb : ByteArray} {src start ack wait : Int} {vb : Value} {back : List Int} {most pend : Int} {push : Bool} {w : World} (tn tf : List UInt8) (v : ByteArray) (hv : v.size ≤ 1024)
    (h : TC W B T R g off r (tCells nb fb src start ack wait vb most pend push) vb back w) (hb : 0 ≤ 3 → back = [] ∧ vb = .slice none 0 0) :
    Calls Tryd.prog 69 #[.pointer (some ⟨T, 0, none⟩), .int .i64 0, .string v] w (OptPost W B T R g off r nb fb 0 v ⟨tn, tf, src, start, ack, wait, back, most, pend, push⟩ w) := by
  have HD := Lib.hid (digits_any v w (by unfold maxLen; omega))
  have HC := Lib.hid h; have HBK := Lib.hid hb
  obtain ⟨y0, y1, y2, y3, y4, y5, y6, y7, y8, y9, yf⟩ := ten h.cells
  have hvl : v.toList = v.data.toList := by rw [ByteArray.toList_eq]
  clear h hb
  cases h1 : (v.toList == [108, 97, 115, 116]) with
  | true =>
    have hv1 : v.data.toList = lastW := by rw [hvl] at h1; simpa [lastW] using h1
    have HO := Lib.hid (show optT 0 v.data.toList ⟨tn, tf, src, start, ack, wait, back, most, pend, push⟩ = some _ from by rw [hv1]; exact opt0_last _)
    clear hv1 hvl
    go_enter Tryd.func69, Tryd.ntmps69
    go_wp2_with (go_at_call 61; refine HD.out.mono ?_; rintro e w' ⟨rfl, rfl⟩)
    go_ret
    have hb := HBK.out
    exact ⟨by first | exact ot1 | exact ot2, true, rfl, 1, start, ack, wait, vb, back, most, pend, push, HC.out.setT 2 _, fun _ => HO.out, fun e => (by cases e), fun _ => hb (by decide)⟩
  | false =>
    have hv1 : v.data.toList ≠ lastW := by rw [hvl] at h1; simpa [lastW] using h1
    cases h2 : (v.toList == [110, 101, 119]) with
    | true =>
      have hv2 : v.data.toList = newW := by rw [hvl] at h2; simpa [newW] using h2
      have HO := Lib.hid (show optT 0 v.data.toList ⟨tn, tf, src, start, ack, wait, back, most, pend, push⟩ = some _ from by rw [hv2]; exact opt0_new _)
      clear hv1 hv2 hvl
      go_enter Tryd.func69, Tryd.ntmps69
      go_wp2_with (go_at_call 61; refine HD.out.mono ?_; rintro e w' ⟨rfl, rfl⟩)
      go_ret
      have hb := HBK.out
      exact ⟨by first | exact ot1 | exact ot2, true, rfl, 2, start, ack, wait, vb, back, most, pend, push, HC.out.setT 2 _, fun _ => HO.out, fun e => (by cases e), fun _ => hb (by decide)⟩
    | false =>
      have hv2 : v.data.toList ≠ newW := by rw [hvl] at h2; simpa [newW] using h2
      by_cases h3 : 0 < numberOf v.data.toList
      · have HO := Lib.hid (show optT 0 v.data.toList ⟨tn, tf, src, start, ack, wait, back, most, pend, push⟩ = some _ from opt0_num _ hv1 hv2 h3)
        clear hv1 hv2 hvl
        generalize numberOf v.data.toList = z at *
        go_enter Tryd.func69, Tryd.ntmps69
        go_wp2_with (go_at_call 61; refine HD.out.mono ?_; rintro e w' ⟨rfl, rfl⟩)
        go_ret
        have hb := HBK.out
        exact ⟨by first | exact ot1 | exact ot2, true, rfl, 3, z, ack, wait, vb, back, most, pend, push, (HC.out.setT 2 _).setT 3 _, fun _ => HO.out, fun e => (by cases e), fun _ => hb (by decide)⟩
      · have HO := Lib.hid (show optT 0 v.data.toList ⟨tn, tf, src, start, ack, wait, back, most, pend, push⟩ = none from opt0_bad _ hv1 hv2 h3)
        clear hv1 hv2 hvl
        generalize numberOf v.data.toList = z at *
        go_enter Tryd.func69, Tryd.ntmps69
        go_wp2_with (go_at_call 61; refine HD.out.mono ?_; rintro e w' ⟨rfl, rfl⟩)
        go_ret
        have hb := HBK.out
        exact ⟨by first | exact ot1 | exact ot2, false, ret_bool (decide_eq_false (show ¬ 0 < z by omega)), 3, z, ack, wait, vb, back, most, pend, push, (HC.out.setT 2 _).setT 3 _, fun e => (by cases e), fun _ => HO.out, fun _ => hb (by decide)⟩

set_option maxHeartbeats 2000000 in
set_option maxRecDepth 100000 in
theorem option_1 {W : World} {B T R g off : Nat} {r : List Tok} {nb fb : ByteArray} {src start ack wait : Int} {vb : Value} {back : List Int} {most pend : Int} {push : Bool} {w : World} (tn tf : List UInt8) (v : ByteArray) (hv : v.size ≤ 1024)
    (h : TC W B T R g off r (tCells nb fb src start ack wait vb most pend push) vb back w) (hb : 1 ≤ 3 → back = [] ∧ vb = .slice none 0 0) :
    Calls Tryd.prog 69 #[.pointer (some ⟨T, 0, none⟩), .int .i64 1, .string v] w (OptPost W B T R g off r nb fb 1 v ⟨tn, tf, src, start, ack, wait, back, most, pend, push⟩ w) := by
  have HD := Lib.hid (digits_any v w (by unfold maxLen; omega))
  have HC := Lib.hid h; have HBK := Lib.hid hb
  obtain ⟨y0, y1, y2, y3, y4, y5, y6, y7, y8, y9, yf⟩ := ten h.cells
  have hvl : v.toList = v.data.toList := by rw [ByteArray.toList_eq]
  clear h hb
  generalize numberOf v.data.toList = z at *
  cases h1 : (v.toList == [110, 111, 110, 101]) with
  | true =>
    have hv1 : v.data.toList = noneW := by rw [hvl] at h1; simpa [noneW] using h1
    have h2 : (v.toList == [97, 108, 108]) = false := by rw [hvl, hv1]; rfl
    have HO := Lib.hid (show optT 1 v.data.toList ⟨tn, tf, src, start, ack, wait, back, most, pend, push⟩ = some _ from by rw [hv1]; exact opt1_none _)
    clear hv1 hvl
    go_enter Tryd.func69, Tryd.ntmps69
    go_wp2_with (go_at_call 61; refine HD.out.mono ?_; rintro e w' ⟨rfl, rfl⟩)
    go_ret
    have hb := HBK.out
    exact ⟨by first | exact ot1 | exact ot2, true, rfl, src, start, 0, wait, vb, back, most, pend, push, HC.out.setT 4 _, fun _ => HO.out, fun e => (by cases e), fun _ => hb (by decide)⟩
  | false =>
    have hv1 : v.data.toList ≠ noneW := by rw [hvl] at h1; simpa [noneW] using h1
    cases h2 : (v.toList == [97, 108, 108]) with
    | true =>
      have hv2 : v.data.toList = allW := by rw [hvl] at h2; simpa [allW] using h2
      have HO := Lib.hid (show optT 1 v.data.toList ⟨tn, tf, src, start, ack, wait, back, most, pend, push⟩ = some _ from by rw [hv2]; exact opt1_all _)
      clear hv1 hv2 hvl
      go_enter Tryd.func69, Tryd.ntmps69
      go_wp2_with (go_at_call 61; refine HD.out.mono ?_; rintro e w' ⟨rfl, rfl⟩)
      go_ret
      have hb := HBK.out
      exact ⟨by first | exact ot1 | exact ot2, true, rfl, src, start, 1, wait, vb, back, most, pend, push, (HC.out.setT 4 (.int .i64 0)).setT 4 _, fun _ => HO.out, fun e => (by cases e), fun _ => hb (by decide)⟩
    | false =>
      have hv2 : v.data.toList ≠ allW := by rw [hvl] at h2; simpa [allW] using h2
      have HO := Lib.hid (show optT 1 v.data.toList ⟨tn, tf, src, start, ack, wait, back, most, pend, push⟩ = none from opt1_bad _ hv1 hv2)
      clear hv1 hv2 hvl
      go_enter Tryd.func69, Tryd.ntmps69
      go_wp2_with (go_at_call 61; refine HD.out.mono ?_; rintro e w' ⟨rfl, rfl⟩)
      go_ret
      have hb := HBK.out
      exact ⟨by first | exact ot1 | exact ot2, false, rfl, src, start, 0, wait, vb, back, most, pend, push, HC.out.setT 4 _, fun e => (by cases e), fun _ => HO.out, fun _ => hb (by decide)⟩

set_option maxHeartbeats 2000000 in
set_option maxRecDepth 100000 in
theorem option_6 {W : World} {B T R g off : Nat} {r : List Tok} {nb fb : ByteArray} {src start ack wait : Int} {vb : Value} {back : List Int} {most pend : Int} {push : Bool} {w : World} (tn tf : List UInt8) (v : ByteArray) (hv : v.size ≤ 1024)
    (h : TC W B T R g off r (tCells nb fb src start ack wait vb most pend push) vb back w) (hb : 6 ≤ 3 → back = [] ∧ vb = .slice none 0 0) :
    Calls Tryd.prog 69 #[.pointer (some ⟨T, 0, none⟩), .int .i64 6, .string v] w (OptPost W B T R g off r nb fb 6 v ⟨tn, tf, src, start, ack, wait, back, most, pend, push⟩ w) := by
  have HD := Lib.hid (digits_any v w (by unfold maxLen; omega))
  have HC := Lib.hid h; have HBK := Lib.hid hb
  obtain ⟨y0, y1, y2, y3, y4, y5, y6, y7, y8, y9, yf⟩ := ten h.cells
  have hvl : v.toList = v.data.toList := by rw [ByteArray.toList_eq]
  clear h hb
  generalize numberOf v.data.toList = z at *
  cases h1 : (v.toList == []) with
  | true =>
    have hv1 : v.data.toList = [] := by rw [hvl] at h1; simpa using h1
    have HO := Lib.hid (show optT 6 v.data.toList ⟨tn, tf, src, start, ack, wait, back, most, pend, push⟩ = some _ from if_pos hv1)
    clear hv1 hvl
    go_enter Tryd.func69, Tryd.ntmps69
    go_wp2_with (go_at_call 61; refine HD.out.mono ?_; rintro e w' ⟨rfl, rfl⟩)
    go_ret
    have hb := HBK.out
    exact ⟨by first | exact ot1 | exact ot2, true, rfl, src, start, ack, wait, vb, back, most, pend, true, HC.out.setT 9 _, fun _ => HO.out, fun e => (by cases e), fun h => absurd h (by decide)⟩
  | false =>
    have hv1 : v.data.toList ≠ [] := by rw [hvl] at h1; simpa using h1
    have HO := Lib.hid (show optT 6 v.data.toList ⟨tn, tf, src, start, ack, wait, back, most, pend, push⟩ = none from if_neg hv1)
    clear hv1 hvl
    go_enter Tryd.func69, Tryd.ntmps69
    go_wp2_with (go_at_call 61; refine HD.out.mono ?_; rintro e w' ⟨rfl, rfl⟩)
    go_ret
    have hb := HBK.out
    exact ⟨by first | exact ot1 | exact ot2, false, rfl, src, start, ack, wait, vb, back, most, pend, true, HC.out.setT 9 _, fun e => (by cases e), fun _ => HO.out, fun h => absurd h (by decide)⟩

end Go.Proofs.YtglgbidcmkncgaaDoor.Subj
