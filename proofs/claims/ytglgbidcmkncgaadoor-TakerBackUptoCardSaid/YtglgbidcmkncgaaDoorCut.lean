/- Texts cut at whatever byte: strings.Split at one byte and rillref.Pieces answer the same pieces. -/
import Derived.Test.YtglgbidcmkncgaaDoorRefPieces
import Derived.Test.YtglgbidcmkncgaaDoorRefTakes
namespace Go.Proofs.YtglgbidcmkncgaaDoor.Subj
open Go.RowKit

/-- A text's pieces between bytes c. -/
def piecesC (c : UInt8) : List UInt8 → List Tok
  | [] => [[]]
  | b :: l => if b = c then [] :: piecesC c l else
    match piecesC c l with
    | p :: ps => (b :: p) :: ps
    | [] => [[b]]

theorem piecesC_46 (l : List UInt8) : piecesC 46 l = pieces l := by
  induction l with
  | nil => rfl
  | cons b l ih => unfold piecesC pieces; rw [ih]; rfl

section
variable (c : UInt8)

theorem piecesC_ne (l : List UInt8) : piecesC c l ≠ [] := by
  cases l with
  | nil => simp [piecesC]
  | cons b l =>
    unfold piecesC
    split
    · simp
    · split <;> simp

theorem piecesC_len (l : List UInt8) : (piecesC c l).length = l.count c + 1 := by
  induction l with
  | nil => simp [piecesC]
  | cons b l ih =>
    unfold piecesC
    by_cases h : b = c
    · rw [if_pos h, List.length_cons, ih, h]; simp
    · rw [if_neg h, List.count_cons_of_ne (by simpa using h)]
      split
      · rename_i p ps e
        rw [e] at ih
        simpa using ih
      · rename_i e
        exact absurd e (piecesC_ne c l)

open Go.Lib in
theorem index_byte (l : List UInt8) : (index l [c] = -1 ∧ piecesC c l = [l]) ∨ ∃ i : Nat, index l [c] = i ∧ i < l.length ∧ piecesC c l = l.take i :: piecesC c (l.drop (i + 1)) := by
  induction l with
  | nil => left; exact ⟨by simp [index], rfl⟩
  | cons b l ih =>
    by_cases h : b = c
    · right
      subst h
      refine ⟨0, by rw [index]; simp [List.isPrefixOf], by simp, ?_⟩
      simp [piecesC]
    · have hp : ([c] : List UInt8).isPrefixOf (b :: l) = false := by simp [List.isPrefixOf, Ne.symm h]
      have hix : index (b :: l) [c] = if index l [c] == -1 then -1 else index l [c] + 1 := by rw [index, hp]; simp
      rcases ih with ⟨h1, h2⟩ | ⟨i, h1, h2, h3⟩
      · left
        refine ⟨by rw [hix, h1]; rfl, ?_⟩
        unfold piecesC
        rw [if_neg h, h2]
      · right
        refine ⟨i + 1, ?_, by simp; omega, ?_⟩
        · rw [hix, h1, if_neg (by intro e; have := beq_iff_eq.1 e; omega)]; omega
        · conv => lhs; unfold piecesC
          rw [if_neg h, h3]
          simp

open Go.Lib in
theorem splitK_piecesC : ∀ (k : Nat) (l : List UInt8), (piecesC c l).length ≤ k + 1 → splitK [c] 0 k l = piecesC c l
  | 0, l, h => by
    rcases index_byte c l with ⟨_, h2⟩ | ⟨i, _, _, h3⟩
    · rw [h2]; rfl
    · rw [h3] at h
      have := List.length_pos_iff.2 (piecesC_ne c (l.drop (i + 1)))
      rw [List.length_cons] at h; omega
  | k + 1, l, h => by
    unfold splitK
    rcases index_byte c l with ⟨h1, h2⟩ | ⟨i, h1, h2, h3⟩
    · rw [h1, h2]; rfl
    · rw [h1, if_neg (by intro e; have := beq_iff_eq.1 e; omega), h3]
      have := splitK_piecesC k (l.drop (i + 1)) (by rw [h3] at h; simpa using h)
      rw [show ((i : Int).toNat + ([c] : List UInt8).length) = i + 1 from rfl, this]
      rfl

theorem piecesC_each (s : List UInt8) : ∀ i, ((piecesC c s).getD i []).length ≤ s.length := by
  induction s with
  | nil => intro i; cases i <;> simp [piecesC]
  | cons b s ih =>
    intro i
    unfold piecesC
    split
    · cases i with
      | zero => simp
      | succ i => have := ih i; simp only [List.getD_cons_succ, List.length_cons]; omega
    · split
      · rename_i p ps e
        rw [e] at ih
        cases i with
        | zero => have := ih 0; simpa using this
        | succ i => have := ih (i + 1); simp only [List.getD_cons_succ, List.length_cons] at this ⊢; omega
      · cases i <;> simp

theorem piecesC_mem {s : List UInt8} {t : Tok} (h : t ∈ piecesC c s) : t.length ≤ s.length := by
  obtain ⟨i, hi, rfl⟩ := List.getElem_of_mem h
  have := piecesC_each c s i
  simpa [List.getD, hi] using this

theorem piecesC_size (s : ByteArray) : (piecesC c s.data.toList).length ≤ s.size + 1 := by
  rw [piecesC_len]; have := List.count_le_length (a := c) (l := s.data.toList); rw [show s.data.toList.length = s.size by simp] at this; omega

/-- What 'Split' leaves: its pieces. -/
theorem strsC_made (w : World) (s : ByteArray) (e : TypeId) :
    StrsAt (w.alloc (.cells ((Lib.splitB ⟨#[c]⟩ 0 (Lib.countB s ⟨#[c]⟩) s).map Value.string).toArray e)) w.heap.size 0 (piecesC c s.data.toList) := by
  intro i hi
  have hd := Lib.splitB_data ⟨#[c]⟩ 0 (Lib.countB s ⟨#[c]⟩) s
  have hc : Lib.countB s ⟨#[c]⟩ = s.data.toList.count c := by
    show Lib.count s.data.toList [c] = _
    exact Lib.count_one c _
  have hp : Lib.splitK [c] 0 (Lib.countB s ⟨#[c]⟩) s.data.toList = piecesC c s.data.toList := splitK_piecesC c _ _ (by rw [piecesC_len, hc]; omega)
  have hd' : (Lib.splitB ⟨#[c]⟩ 0 (Lib.countB s ⟨#[c]⟩) s).map (·.data.toList) = piecesC c s.data.toList := hd.trans hp
  generalize Lib.splitB ⟨#[c]⟩ 0 (Lib.countB s ⟨#[c]⟩) s = q at *
  rw [World.cell?_alloc_at _ _ _ _ rfl, Nat.zero_add]
  rw [← hd'] at hi ⊢
  have hi' : i < q.length := by simpa using hi
  unfold strAt
  simp [hi']

theorem countB_byte (s : ByteArray) : Lib.countB s ⟨#[c]⟩ + 1 = (piecesC c s.data.toList).length := by
  rw [piecesC_len]
  show Lib.count s.data.toList [c] + 1 = _
  rw [Lib.count_one c _]

/-- strings.Split at one byte. -/
theorem split_c (s : ByteArray) (w : World) (hs : s.size ≤ 1048576) (hm : ML w) :
    Calls Tryd.prog 52 #[.string s, .string ⟨#[c]⟩] w fun e w' =>
      e = .returned (.slice (some ⟨w.heap.size, 0, none⟩) (piecesC c s.data.toList).length (piecesC c s.data.toList).length) ∧ StrsAt w' w.heap.size 0 (piecesC c s.data.toList) ∧ Below w.heap.size w w' := by
  obtain ⟨m, hm⟩ := hm
  refine (Tryd.strings_Split s ⟨#[c]⟩ m w (by omega) hm (Nat.le_refl 1)).mono ?_
  rintro e w' ⟨rfl, rfl⟩
  rw [← countB_byte]
  exact ⟨rfl, strsC_made c w s _, (Below.refl _ _).alloc (Nat.le_refl _) _⟩

theorem piecesC_at (l : List UInt8) : piecesC c (l ++ [c]) = piecesC c l ++ [[]] := by
  induction l with
  | nil => simp [piecesC]
  | cons b l ih =>
    rw [List.cons_append]
    conv => lhs; unfold piecesC
    conv => rhs; unfold piecesC
    rw [ih]
    split
    · simp
    · cases hp : piecesC c l with
      | nil => exact absurd hp (piecesC_ne c l)
      | cons p ps => simp

theorem piecesC_byte (l : List UInt8) (b : UInt8) (hc : b ≠ c) : piecesC c (l ++ [b]) = (piecesC c l).set ((piecesC c l).length - 1) ((piecesC c l).getD ((piecesC c l).length - 1) [] ++ [b]) := by
  induction l with
  | nil => simp [piecesC, hc]
  | cons a l ih =>
    rw [List.cons_append]
    conv => lhs; unfold piecesC
    conv => rhs; unfold piecesC
    rw [ih]
    have hne := piecesC_ne c l
    split
    · cases hp : piecesC c l with
      | nil => exact absurd hp hne
      | cons p ps => simp
    · cases hp : piecesC c l with
      | nil => exact absurd hp hne
      | cons p ps =>
        cases ps with
        | nil => simp
        | cons q qs => simp

set_option maxHeartbeats 1000000 in
set_option maxRecDepth 100000 in
/-- rillref.Pieces at whatever byte. -/
theorem piecesC_any (s : ByteArray) (w : World) (hs : s.size ≤ 1048576) :
    Calls Tryd.prog 59 #[.string s, .int .u8 c.toNat] w fun e w' => ∃ v, e = .returned v ∧ w'.ownsRow w.heap.size 9 1 v (piecesC c s.data.toList).length (strsV (piecesC c s.data.toList)) ∧ Below w.heap.size w w' := by
  obtain ⟨cn, hcn⟩ : ∃ cn : Int, (c.toNat : Int) = cn := ⟨_, rfl⟩
  rw [hcn]
  have HCN := Lib.hid hcn
  clear hcn
  go_enter Tryd.func59, Tryd.ntmps59
  obtain ⟨i0, hi, hz0, hz1, hz2⟩ := info_parts info_str
  go_wp2
  go_loopw [5, 6] (fun v i wr => ∃ (k m : Nat), k ≤ s.size ∧ i = .int .i64 k ∧ Hid ((piecesC c (s.data.toList.take k)).length = m + 1) ∧ wr.ownsRow w.heap.size 9 1 v (m + 1) (strsV (piecesC c (s.data.toList.take k))) ∧ Below w.heap.size w wr) (fun _ i _ => s.size - (intOf i).toNat)
  case atStart =>
    refine ⟨0, 0, Nat.zero_le _, rfl, rfl, ?_, (Below.refl _ _).alloc (Nat.le_refl _) _⟩
    exact World.ownsRow_lit w _ 1 (Nat.le_refl _) (by decide) rfl
  case round =>
    obtain ⟨k, m, hk, rfl, HL, hown, hb⟩ := hrel
    obtain ⟨g, cap, rfl⟩ := ownsRow_succ hown
    have hbs := hb.size
    by_cases hlt : k < s.size
    · have htk : s.data.toList.take (k + 1) = s.data.toList.take k ++ [s[k]] := by
        rw [List.take_add_one]; simp [hlt]; rfl
      have hm : m ≤ 1048577 := by
        have := piecesC_len c (s.data.toList.take k)
        have h2 := List.count_le_length (a := c) (l := s.data.toList.take k)
        have h3 := HL.out
        simp at h2; omega
      have hq : (strAt (piecesC c (s.data.toList.take k)) m).size ≤ 1048576 := by
        have h1 := piecesC_each c (s.data.toList.take k) m
        have h2 : (strAt (piecesC c (s.data.toList.take k)) m).size = ((piecesC c (s.data.toList.take k)).getD m []).length := by
          show ((piecesC c (s.data.toList.take k)).getD m []).toArray.size = _; simp
        have h3 : (s.data.toList.take k).length ≤ s.size := by simp; omega
        omega
      have hx : (s.extract k (k + 1)).size = 1 := by simp; omega
      have hp1 : s[k] = c → piecesC c (s.data.toList.take (k + 1)) = piecesC c (s.data.toList.take k) ++ [[]] := fun e => by rw [htk, e]; exact piecesC_at c _
      have hp2 : s[k] ≠ c → piecesC c (s.data.toList.take (k + 1)) = (piecesC c (s.data.toList.take k)).set m ((piecesC c (s.data.toList.take k)).getD m [] ++ [s[k]]) := fun e => by
        rw [htk, piecesC_byte c _ _ e, HL.out]; rfl
      clear htk
      generalize piecesC c (s.data.toList.take k) = l at *
      have hpos := (hown.lt g rfl).1
      have hc := hown.cellAt m (by omega)
      have hf := hown.frozenAt m
      rw [strsV_get _ _ (by rw [HL.out]; omega)] at hc
      by_cases h46 : s[k] = c
      · have d : ((s[k].toNat : Int) == cn) = true := by rw [h46, HCN.out]; simp
        have HP := Lib.hid (hp1 h46)
        clear h46 hp1 hp2 hc hf hq hx
        go_wp2_with (at_builtin; go_loud (refine wpList_append_own _ rfl (.tmp 19) (.tmp 20) 27 rfl (w.heap.size) 9 i0 (.string ⟨#[]⟩) 1 16 Tryd.underlying27 hi hz0 hz1 hz2 rfl (by decide) _ _ _ rfl (hown.alloc _) ⟨wr.heap.size, 0, none⟩ 1 1 [.string ⟨#[]⟩] rfl rfl (cell_one_new _ _ _) (by simp [Value.oneCell']) (by unfold maxLen; omega) (by omega) (by simp; omega) ?_))
        intro v' w1 hown1 hgrow hne
        go_wp2
        refine ⟨⟨k + 1, m + 1, by omega, by go_num, ?_, ?_, ?_⟩, by simp [intOf]; omega⟩
        · show _ = _
          rw [HP.out]; simp [HL.out]
        · rw [HP.out, strsV_append]; exact hown1
        · exact (hb.alloc hbs _).grown hgrow (by simp; omega) (fun k hk => (hown.lt k hk).1)
      · have d : ((s[k].toNat : Int) == cn) = false := by
          rw [← HCN.out]
          simp; intro e; apply h46; apply UInt8.toNat_inj.1; exact Int.ofNat.inj e
        have HP := Lib.hid (hp2 h46)
        clear h46 hp1 hp2
        go_wp2
        go_region
        go_wp2
        have hst := (hown.stored m (.string (strAt l m ++ s.extract k (k + 1)))).1
        have he : strAt l m ++ s.extract k (k + 1) = ⟨(l.getD m [] ++ [s[k]]).toArray⟩ := by
          rw [extract_one s k hlt]
          apply ByteArray.ext; simp [strAt]
        rw [he] at hst ⊢
        refine ⟨⟨k + 1, m, by omega, by go_num, ?_, ?_, ?_⟩, by simp [intOf]; omega⟩
        · show _ = _
          rw [HP.out]; simp [HL.out]
        · rw [HP.out, strsV_set]; exact hst.drew
        · exact (hb.setCell (p := ⟨g, m, none⟩) hpos _).drew
    · obtain rfl : k = s.size := by omega
      go_wp2
      go_ret
      rw [List.take_of_length_le (by simp)] at *
      exact ⟨_, rfl, by rw [HL.out]; exact hown, hb⟩

end
end Go.Proofs.YtglgbidcmkncgaaDoor.Subj
