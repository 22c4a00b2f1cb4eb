/- Parts of the proof, joined: Package record's Check and the reference's Record, walked. -/
import Derived.Test.YtapmhpnkpjgefaaDoorConsumerRulesUptoM3
import Derived.Test.YtapmhpnkpjgefaaDoorConsumerRulesUptoM4
import Derived.Test.YtapmhpnkpjgefaaDoorConsumerRulesUptoM8
namespace Go.Proofs.YtapmhpnkpjgefaaDoor.Rec
open Go.RowKit Subj Pack Crc

/-- A record's cells, as values; as lists. -/
def recA (k q t : Int) (s h d : ByteArray) : Array Value := #[.int .i64 k, .int .i64 q, .int .i64 t, .string s, .string h, .string d]
def rcOf (k q t : Int) (s h d : ByteArray) : Rc := ⟨k, q, t, s.data.toList, h.data.toList, d.data.toList⟩

theorem ml_alloc {w : World} (h : ML w) (o : Obj) : ML (w.alloc o) := h.below ((Below.refl _ _).alloc (Nat.le_refl _) _)

theorem empty_iff (s : ByteArray) : s.data.toList = [] ↔ s.toList = [] := by rw [ByteArray.toList_eq]

set_option maxHeartbeats 4000000 in
set_option maxRecDepth 100000 in
theorem check_any (k q t : Int) (s h d : ByteArray) (w : World) (hs : s.size ≤ 1048576) (hh : h.size ≤ 1048576) (hd : d.size ≤ 1048576) (hm : ML w) :
    Calls Tryd.prog 46 #[.agg (recA k q t s h d)] w fun e w' => e = .returned (.int .i64 (recErr (rcOf k q t s h d))) ∧ Below w.heap.size w w' := by
  obtain ⟨er, her⟩ : ∃ er, recErr (rcOf k q t s h d) = er := ⟨_, rfl⟩
  rw [her]
  unfold recErr rcOf far at her
  simp only [Array.length_toList, ByteArray.size_data, empty_iff] at her
  have HS := Lib.hid fun w hm => subject_any s w hs hm
  have HF := Lib.hid fun w hm => filter_any s w hs hm
  have hm1 := ml_alloc hm (.cells (recA k q t s h d) 42)
  have HM := Lib.hid hm1
  have hb := (Below.refl w.heap.size w).alloc (Nat.le_refl _) (.cells (recA k q t s h d) 42)
  have HB := Lib.hid hb
  generalize err true s.data.toList = e1 at *
  generalize err false s.data.toList = e2 at *
  have HE := Lib.hid her
  clear her hm1 hm hb
  unfold recA at *
  go_enter Tryd.func46, Tryd.ntmps46
  go_wp2_with (first
    | (go_at_call 58; refine (HS.out _ HM.out).mono ?_; rintro e w' ⟨rfl, hb'⟩; obtain ⟨hcc, hff⟩ := bcell hb'; have hbb := HB.out.trans (hb'.mono HB.out.size); clear hb')
    | (go_at_call 37; refine (HF.out _ HM.out).mono ?_; rintro e w' ⟨rfl, hb'⟩; obtain ⟨hcc, hff⟩ := bcell hb'; have hbb := HB.out.trans (hb'.mono HB.out.size); clear hb'))
  all_goals
    go_ret
    refine ⟨ret_int ?_, by first | exact HB.out | assumption⟩
    rw [← HE.out]
    clear HE HS HF HM HB
    simp only [beq_iff_eq, beq_eq_false_iff_ne, bne_iff_ne, bne_eq_false_iff_eq, List.isEmpty_iff, Bool.not_eq_true', Bool.not_eq_false', ne_eq, Int.natCast_eq_zero] at *
    repeat' split
    all_goals first | rfl | omega | (simp_all; done) | (exfalso; simp_all; omega)

end Go.Proofs.YtapmhpnkpjgefaaDoor.Rec
