/- rillref.Pieces, walked. -/
import Derived.Test.YtpmffneohcbhbaaDoorChecked
import Derived.Test.YtpmffneohcbhbaaDoorKit
import Derived.Test.YtpmffneohcbhbaaDoorSubjWalks
import Derived.RangeFuncBox
namespace Go.Proofs.YtpmffneohcbhbaaDoor.Subj
open Go.RowKit

/-- A row of texts, as cells. -/
def strsV (l : List Tok) : List Value := l.map fun t => .string ⟨t.toArray⟩

theorem strsV_len (l : List Tok) : (strsV l).length = l.length := by simp [strsV]
theorem strsV_get (l : List Tok) (i : Nat) (h : i < l.length) : (strsV l)[i]? = some (.string (strAt l i)) := by
  simp [strsV, strAt, h, List.getD]

theorem strsV_append (l m : List Tok) : strsV (l ++ m) = strsV l ++ strsV m := by simp [strsV]
theorem strsV_set (l : List Tok) (i : Nat) (t : Tok) : strsV (l.set i t) = (strsV l).set i (.string ⟨t.toArray⟩) := by simp [strsV, List.map_set]
theorem extract_one (s : ByteArray) (k : Nat) (h : k < s.size) : s.extract k (k + 1) = ⟨#[s[k]]⟩ := by
  apply ByteArray.ext
  apply Array.ext
  · simp; omega
  · intro i h1 h2
    simp at h2
    subst h2
    simp [ByteArray.data_extract]
    rfl

theorem pieces_dot (l : List UInt8) : pieces (l ++ [46]) = pieces l ++ [[]] := by
  induction l with
  | nil => simp [pieces]
  | cons b l ih =>
    rw [List.cons_append]
    conv => lhs; unfold pieces
    conv => rhs; unfold pieces
    rw [ih]
    split
    · simp
    · cases hp : pieces l with
      | nil => exact absurd hp (pieces_ne l)
      | cons p ps => simp

theorem pieces_byte (l : List UInt8) (c : UInt8) (hc : c ≠ 46) : pieces (l ++ [c]) = (pieces l).set ((pieces l).length - 1) ((pieces l).getD ((pieces l).length - 1) [] ++ [c]) := by
  induction l with
  | nil => simp [pieces, hc]
  | cons b l ih =>
    rw [List.cons_append]
    conv => lhs; unfold pieces
    conv => rhs; unfold pieces
    rw [ih]
    have hne := pieces_ne l
    split
    · cases hp : pieces l with
      | nil => exact absurd hp hne
      | cons p ps => simp
    · cases hp : pieces l with
      | nil => exact absurd hp hne
      | cons p ps =>
        cases ps with
        | nil => simp
        | cons q qs => simp

theorem info_str : (Tryd.prog.info? 9).map (fun i => (i.zero, i.size, i.bytes)) = some (some (.string ⟨#[]⟩), 1, 16) := by kernel_rfl

set_option maxRecDepth 100000 in
theorem pieces_any (s : ByteArray) (w : World) (hs : s.size ≤ 1048576) :
    Calls Tryd.prog 56 #[.string s, .int .u8 46] w fun e w' => ∃ v, e = .returned v ∧ w'.ownsRow w.heap.size 9 1 v (pieces s.data.toList).length (strsV (pieces s.data.toList)) ∧ Below w.heap.size w w' := by
  go_enter Tryd.func56, Tryd.ntmps56
  obtain ⟨i0, hi, hz0, hz1, hz2⟩ := info_parts info_str
  go_wp2
  go_loopw [5, 6] (fun v i wr => ∃ (k m : Nat), k ≤ s.size ∧ i = .int .i64 k ∧ Hid ((pieces (s.data.toList.take k)).length = m + 1) ∧ wr.ownsRow w.heap.size 9 1 v (m + 1) (strsV (pieces (s.data.toList.take k))) ∧ Below w.heap.size w wr) (fun _ i _ => s.size - (intOf i).toNat)
  case atStart =>
    refine ⟨0, 0, Nat.zero_le _, rfl, rfl, ?_, (Below.refl _ _).alloc (Nat.le_refl _) _⟩
    exact World.ownsRow_lit w _ 1 (Nat.le_refl _) (by decide) rfl
  case round =>
    obtain ⟨k, m, hk, rfl, HL, hown, hb⟩ := hrel
    obtain ⟨g, cap, rfl⟩ := ownsRow_succ hown
    have hbs := hb.size
    by_cases hlt : k < s.size
    · have htk : s.data.toList.take (k + 1) = s.data.toList.take k ++ [s[k]] := by
        rw [List.take_add_one]; simp [hlt]; rfl
      have hm : m ≤ 1048577 := by
        have := pieces_len (s.data.toList.take k)
        have h2 := List.count_le_length (a := 46) (l := s.data.toList.take k)
        have h3 := HL.out
        simp at h2; omega
      have hq : (strAt (pieces (s.data.toList.take k)) m).size ≤ 1048576 := by
        have h1 := pieces_each (s.data.toList.take k) m
        have h2 : (strAt (pieces (s.data.toList.take k)) m).size = ((pieces (s.data.toList.take k)).getD m []).length := by
          show ((pieces (s.data.toList.take k)).getD m []).toArray.size = _; simp
        have h3 : (s.data.toList.take k).length ≤ s.size := by simp; omega
        omega
      have hx : (s.extract k (k + 1)).size = 1 := by simp; omega
      have hp1 : s[k] = 46 → pieces (s.data.toList.take (k + 1)) = pieces (s.data.toList.take k) ++ [[]] := fun e => by rw [htk, e]; exact pieces_dot _
      have hp2 : s[k] ≠ 46 → pieces (s.data.toList.take (k + 1)) = (pieces (s.data.toList.take k)).set m ((pieces (s.data.toList.take k)).getD m [] ++ [s[k]]) := fun e => by
        rw [htk, pieces_byte _ _ e, HL.out]; rfl
      clear htk
      generalize pieces (s.data.toList.take k) = l at *
      have hpos := (hown.lt g rfl).1
      have hc := hown.cellAt m (by omega)
      have hf := hown.frozenAt m
      rw [strsV_get _ _ (by rw [HL.out]; omega)] at hc
      by_cases h46 : s[k] = 46
      · have d : ((s[k].toNat : Int) == 46) = true := by rw [h46]; rfl
        have HP := Lib.hid (hp1 h46)
        clear h46 hp1 hp2 hc hf hq hx
        go_wp2_with (at_builtin; go_loud (refine wpList_append_own _ rfl (.tmp 19) (.tmp 20) 43 rfl (w.heap.size) 9 i0 (.string ⟨#[]⟩) 1 16 Tryd.underlying43 hi hz0 hz1 hz2 rfl (by decide) _ _ _ rfl (hown.alloc _) ⟨wr.heap.size, 0, none⟩ 1 1 [.string ⟨#[]⟩] rfl rfl (cell_one_new _ _ _) (by simp [Value.oneCell']) (by unfold maxLen; omega) (by omega) (by simp; omega) ?_))
        intro v' w1 hown1 hgrow hne
        go_wp2
        refine ⟨⟨k + 1, m + 1, by omega, by go_num, ?_, ?_, ?_⟩, by simp [intOf]; omega⟩
        · show _ = _
          rw [HP.out]; simp [HL.out]
        · rw [HP.out, strsV_append]; exact hown1
        · exact (hb.alloc hbs _).grown hgrow (by simp; omega) (fun k hk => (hown.lt k hk).1)
      · have d : ((s[k].toNat : Int) == 46) = false := by
          simp; intro e; apply h46; apply UInt8.toNat_inj.1; exact Int.ofNat.inj e
        have HP := Lib.hid (hp2 h46)
        clear h46 hp1 hp2
        go_wp2
        go_region
        go_wp2
        have hst := (hown.stored m (.string (strAt l m ++ s.extract k (k + 1)))).1
        have he : strAt l m ++ s.extract k (k + 1) = ⟨(l.getD m [] ++ [s[k]]).toArray⟩ := by
          rw [extract_one s k hlt]
          apply ByteArray.ext; simp [strAt]
        rw [he] at hst ⊢
        refine ⟨⟨k + 1, m, by omega, by go_num, ?_, ?_, ?_⟩, by simp [intOf]; omega⟩
        · show _ = _
          rw [HP.out]; simp [HL.out]
        · rw [HP.out, strsV_set]; exact hst.drew
        · exact (hb.setCell (p := ⟨g, m, none⟩) hpos _).drew
    · obtain rfl : k = s.size := by omega
      go_wp2
      go_ret
      rw [List.take_of_length_le (by simp)] at *
      exact ⟨_, rfl, by rw [HL.out]; exact hown, hb⟩
end Go.Proofs.YtpmffneohcbhbaaDoor.Subj
