/- Parts of the proof, joined: Texts cut at whatever byte: strings.Split at one byte and rillref.Pieces answer the same pieces.; The laws of filters, of the Lean functions. No program here.; Plans in plain Lean: what is right, how a text of a plan is read. No program here.; Consumers' plans in plain Lean: what is wrong with one.; How a consumer's text is read: in plain Lean.; How a plan is printed: in plain Lean. -/
import Derived.Test.YthhingihjpkipaaDoorConsumerDrainsUptoM2
import Derived.Lib.Join
import Derived.Lib.ItoaNum
namespace Go.Proofs.YthhingihjpkipaaDoor.Subj
open Go.RowKit

/-- A text's pieces between bytes c. -/
def piecesC (c : UInt8) : List UInt8 → List Tok
  | [] => [[]]
  | b :: l => if b = c then [] :: piecesC c l else
    match piecesC c l with
    | p :: ps => (b :: p) :: ps
    | [] => [[b]]

theorem piecesC_46 (l : List UInt8) : piecesC 46 l = pieces l := by
  induction l with
  | nil => rfl
  | cons b l ih => unfold piecesC pieces; rw [ih]; rfl

section
variable (c : UInt8)

theorem piecesC_ne (l : List UInt8) : piecesC c l ≠ [] := by
  cases l with
  | nil => simp [piecesC]
  | cons b l =>
    unfold piecesC
    split
    · simp
    · split <;> simp

theorem piecesC_len (l : List UInt8) : (piecesC c l).length = l.count c + 1 := by
  induction l with
  | nil => simp [piecesC]
  | cons b l ih =>
    unfold piecesC
    by_cases h : b = c
    · rw [if_pos h, List.length_cons, ih, h]; simp
    · rw [if_neg h, List.count_cons_of_ne (by simpa using h)]
      split
      · rename_i p ps e
        rw [e] at ih
        simpa using ih
      · rename_i e
        exact absurd e (piecesC_ne c l)

open Go.Lib in
theorem index_byte (l : List UInt8) : (index l [c] = -1 ∧ piecesC c l = [l]) ∨ ∃ i : Nat, index l [c] = i ∧ i < l.length ∧ piecesC c l = l.take i :: piecesC c (l.drop (i + 1)) := by
  induction l with
  | nil => left; exact ⟨by simp [index], rfl⟩
  | cons b l ih =>
    by_cases h : b = c
    · right
      subst h
      refine ⟨0, by rw [index]; simp [List.isPrefixOf], by simp, ?_⟩
      simp [piecesC]
    · have hp : ([c] : List UInt8).isPrefixOf (b :: l) = false := by simp [List.isPrefixOf, Ne.symm h]
      have hix : index (b :: l) [c] = if index l [c] == -1 then -1 else index l [c] + 1 := by rw [index, hp]; simp
      rcases ih with ⟨h1, h2⟩ | ⟨i, h1, h2, h3⟩
      · left
        refine ⟨by rw [hix, h1]; rfl, ?_⟩
        unfold piecesC
        rw [if_neg h, h2]
      · right
        refine ⟨i + 1, ?_, by simp; omega, ?_⟩
        · rw [hix, h1, if_neg (by intro e; have := beq_iff_eq.1 e; omega)]; omega
        · conv => lhs; unfold piecesC
          rw [if_neg h, h3]
          simp

open Go.Lib in
theorem splitK_piecesC : ∀ (k : Nat) (l : List UInt8), (piecesC c l).length ≤ k + 1 → splitK [c] 0 k l = piecesC c l
  | 0, l, h => by
    rcases index_byte c l with ⟨_, h2⟩ | ⟨i, _, _, h3⟩
    · rw [h2]; rfl
    · rw [h3] at h
      have := List.length_pos_iff.2 (piecesC_ne c (l.drop (i + 1)))
      rw [List.length_cons] at h; omega
  | k + 1, l, h => by
    unfold splitK
    rcases index_byte c l with ⟨h1, h2⟩ | ⟨i, h1, h2, h3⟩
    · rw [h1, h2]; rfl
    · rw [h1, if_neg (by intro e; have := beq_iff_eq.1 e; omega), h3]
      have := splitK_piecesC k (l.drop (i + 1)) (by rw [h3] at h; simpa using h)
      rw [show ((i : Int).toNat + ([c] : List UInt8).length) = i + 1 from rfl, this]
      rfl

theorem piecesC_each (s : List UInt8) : ∀ i, ((piecesC c s).getD i []).length ≤ s.length := by
  induction s with
  | nil => intro i; cases i <;> simp [piecesC]
  | cons b s ih =>
    intro i
    unfold piecesC
    split
    · cases i with
      | zero => simp
      | succ i => have := ih i; simp only [List.getD_cons_succ, List.length_cons]; omega
    · split
      · rename_i p ps e
        rw [e] at ih
        cases i with
        | zero => have := ih 0; simpa using this
        | succ i => have := ih (i + 1); simp only [List.getD_cons_succ, List.length_cons] at this ⊢; omega
      · cases i <;> simp

theorem piecesC_mem {s : List UInt8} {t : Tok} (h : t ∈ piecesC c s) : t.length ≤ s.length := by
  obtain ⟨i, hi, rfl⟩ := List.getElem_of_mem h
  have := piecesC_each c s i
  simpa [List.getD, hi] using this

theorem piecesC_size (s : ByteArray) : (piecesC c s.data.toList).length ≤ s.size + 1 := by
  rw [piecesC_len]; have := List.count_le_length (a := c) (l := s.data.toList); rw [show s.data.toList.length = s.size by simp] at this; omega

/-- What 'Split' leaves: its pieces. -/
theorem strsC_made (w : World) (s : ByteArray) (e : TypeId) :
    StrsAt (w.alloc (.cells ((Lib.splitB ⟨#[c]⟩ 0 (Lib.countB s ⟨#[c]⟩) s).map Value.string).toArray e)) w.heap.size 0 (piecesC c s.data.toList) := by
  intro i hi
  have hd := Lib.splitB_data ⟨#[c]⟩ 0 (Lib.countB s ⟨#[c]⟩) s
  have hc : Lib.countB s ⟨#[c]⟩ = s.data.toList.count c := by
    show Lib.count s.data.toList [c] = _
    exact Lib.count_one c _
  have hp : Lib.splitK [c] 0 (Lib.countB s ⟨#[c]⟩) s.data.toList = piecesC c s.data.toList := splitK_piecesC c _ _ (by rw [piecesC_len, hc]; omega)
  have hd' : (Lib.splitB ⟨#[c]⟩ 0 (Lib.countB s ⟨#[c]⟩) s).map (·.data.toList) = piecesC c s.data.toList := hd.trans hp
  generalize Lib.splitB ⟨#[c]⟩ 0 (Lib.countB s ⟨#[c]⟩) s = q at *
  rw [World.cell?_alloc_at _ _ _ _ rfl, Nat.zero_add]
  rw [← hd'] at hi ⊢
  have hi' : i < q.length := by simpa using hi
  unfold strAt
  simp [hi']

theorem countB_byte (s : ByteArray) : Lib.countB s ⟨#[c]⟩ + 1 = (piecesC c s.data.toList).length := by
  rw [piecesC_len]
  show Lib.count s.data.toList [c] + 1 = _
  rw [Lib.count_one c _]

/-- strings.Split at one byte. -/
theorem split_c (s : ByteArray) (w : World) (hs : s.size ≤ 1048576) (hm : ML w) :
    Calls Tryd.prog 86 #[.string s, .string ⟨#[c]⟩] w fun e w' =>
      e = .returned (.slice (some ⟨w.heap.size, 0, none⟩) (piecesC c s.data.toList).length (piecesC c s.data.toList).length) ∧ StrsAt w' w.heap.size 0 (piecesC c s.data.toList) ∧ Below w.heap.size w w' := by
  obtain ⟨m, hm⟩ := hm
  refine (Tryd.strings_Split s ⟨#[c]⟩ m w (by omega) hm (Nat.le_refl 1)).mono ?_
  rintro e w' ⟨rfl, rfl⟩
  rw [← countB_byte]
  exact ⟨rfl, strsC_made c w s _, (Below.refl _ _).alloc (Nat.le_refl _) _⟩

theorem piecesC_at (l : List UInt8) : piecesC c (l ++ [c]) = piecesC c l ++ [[]] := by
  induction l with
  | nil => simp [piecesC]
  | cons b l ih =>
    rw [List.cons_append]
    conv => lhs; unfold piecesC
    conv => rhs; unfold piecesC
    rw [ih]
    split
    · simp
    · cases hp : piecesC c l with
      | nil => exact absurd hp (piecesC_ne c l)
      | cons p ps => simp

theorem piecesC_byte (l : List UInt8) (b : UInt8) (hc : b ≠ c) : piecesC c (l ++ [b]) = (piecesC c l).set ((piecesC c l).length - 1) ((piecesC c l).getD ((piecesC c l).length - 1) [] ++ [b]) := by
  induction l with
  | nil => simp [piecesC, hc]
  | cons a l ih =>
    rw [List.cons_append]
    conv => lhs; unfold piecesC
    conv => rhs; unfold piecesC
    rw [ih]
    have hne := piecesC_ne c l
    split
    · cases hp : piecesC c l with
      | nil => exact absurd hp hne
      | cons p ps => simp
    · cases hp : piecesC c l with
      | nil => exact absurd hp hne
      | cons p ps =>
        cases ps with
        | nil => simp
        | cons q qs => simp

set_option maxHeartbeats 1000000 in
set_option maxRecDepth 100000 in
/-- rillref.Pieces at whatever byte. -/
theorem piecesC_any (s : ByteArray) (w : World) (hs : s.size ≤ 1048576) :
    Calls Tryd.prog 88 #[.string s, .int .u8 c.toNat] w fun e w' => ∃ v, e = .returned v ∧ w'.ownsRow w.heap.size 9 1 v (piecesC c s.data.toList).length (strsV (piecesC c s.data.toList)) ∧ Below w.heap.size w w' := by
  obtain ⟨cn, hcn⟩ : ∃ cn : Int, (c.toNat : Int) = cn := ⟨_, rfl⟩
  rw [hcn]
  have HCN := Lib.hid hcn
  clear hcn
  go_enter Tryd.func88, Tryd.ntmps88
  obtain ⟨i0, hi, hz0, hz1, hz2⟩ := info_parts info_str
  go_wp2
  go_loopw [5, 6] (fun v i wr => ∃ (k m : Nat), k ≤ s.size ∧ i = .int .i64 k ∧ Hid ((piecesC c (s.data.toList.take k)).length = m + 1) ∧ wr.ownsRow w.heap.size 9 1 v (m + 1) (strsV (piecesC c (s.data.toList.take k))) ∧ Below w.heap.size w wr) (fun _ i _ => s.size - (intOf i).toNat)
  case atStart =>
    refine ⟨0, 0, Nat.zero_le _, rfl, rfl, ?_, (Below.refl _ _).alloc (Nat.le_refl _) _⟩
    exact World.ownsRow_lit w _ 1 (Nat.le_refl _) (by decide) rfl
  case round =>
    obtain ⟨k, m, hk, rfl, HL, hown, hb⟩ := hrel
    obtain ⟨g, cap, rfl⟩ := ownsRow_succ hown
    have hbs := hb.size
    by_cases hlt : k < s.size
    · have htk : s.data.toList.take (k + 1) = s.data.toList.take k ++ [s[k]] := by
        rw [List.take_add_one]; simp [hlt]; rfl
      have hm : m ≤ 1048577 := by
        have := piecesC_len c (s.data.toList.take k)
        have h2 := List.count_le_length (a := c) (l := s.data.toList.take k)
        have h3 := HL.out
        simp at h2; omega
      have hq : (strAt (piecesC c (s.data.toList.take k)) m).size ≤ 1048576 := by
        have h1 := piecesC_each c (s.data.toList.take k) m
        have h2 : (strAt (piecesC c (s.data.toList.take k)) m).size = ((piecesC c (s.data.toList.take k)).getD m []).length := by
          show ((piecesC c (s.data.toList.take k)).getD m []).toArray.size = _; simp
        have h3 : (s.data.toList.take k).length ≤ s.size := by simp; omega
        omega
      have hx : (s.extract k (k + 1)).size = 1 := by simp; omega
      have hp1 : s[k] = c → piecesC c (s.data.toList.take (k + 1)) = piecesC c (s.data.toList.take k) ++ [[]] := fun e => by rw [htk, e]; exact piecesC_at c _
      have hp2 : s[k] ≠ c → piecesC c (s.data.toList.take (k + 1)) = (piecesC c (s.data.toList.take k)).set m ((piecesC c (s.data.toList.take k)).getD m [] ++ [s[k]]) := fun e => by
        rw [htk, piecesC_byte c _ _ e, HL.out]; rfl
      clear htk
      generalize piecesC c (s.data.toList.take k) = l at *
      have hpos := (hown.lt g rfl).1
      have hc := hown.cellAt m (by omega)
      have hf := hown.frozenAt m
      rw [strsV_get _ _ (by rw [HL.out]; omega)] at hc
      by_cases h46 : s[k] = c
      · have d : ((s[k].toNat : Int) == cn) = true := by rw [h46, HCN.out]; simp
        have HP := Lib.hid (hp1 h46)
        clear h46 hp1 hp2 hc hf hq hx
        go_wp2_with (at_builtin; go_loud (refine wpList_append_own _ rfl (.tmp 19) (.tmp 20) 125 rfl (w.heap.size) 9 i0 (.string ⟨#[]⟩) 1 16 Tryd.underlying125 hi hz0 hz1 hz2 rfl (by decide) _ _ _ rfl (hown.alloc _) ⟨wr.heap.size, 0, none⟩ 1 1 [.string ⟨#[]⟩] rfl rfl (cell_one_new _ _ _) (by simp [Value.oneCell']) (by unfold maxLen; omega) (by omega) (by simp; omega) ?_))
        intro v' w1 hown1 hgrow hne
        go_wp2
        refine ⟨⟨k + 1, m + 1, by omega, by go_num, ?_, ?_, ?_⟩, by simp [intOf]; omega⟩
        · show _ = _
          rw [HP.out]; simp [HL.out]
        · rw [HP.out, strsV_append]; exact hown1
        · exact (hb.alloc hbs _).grown hgrow (by simp; omega) (fun k hk => (hown.lt k hk).1)
      · have d : ((s[k].toNat : Int) == cn) = false := by
          rw [← HCN.out]
          simp; intro e; apply h46; apply UInt8.toNat_inj.1; exact Int.ofNat.inj e
        have HP := Lib.hid (hp2 h46)
        clear h46 hp1 hp2
        go_wp2
        go_region
        go_wp2
        have hst := (hown.stored m (.string (strAt l m ++ s.extract k (k + 1)))).1
        have he : strAt l m ++ s.extract k (k + 1) = ⟨(l.getD m [] ++ [s[k]]).toArray⟩ := by
          rw [extract_one s k hlt]
          apply ByteArray.ext; simp [strAt]
        rw [he] at hst ⊢
        refine ⟨⟨k + 1, m, by omega, by go_num, ?_, ?_, ?_⟩, by simp [intOf]; omega⟩
        · show _ = _
          rw [HP.out]; simp [HL.out]
        · rw [HP.out, strsV_set]; exact hst.drew
        · exact (hb.setCell (p := ⟨g, m, none⟩) hpos _).drew
    · obtain rfl : k = s.size := by omega
      go_wp2
      go_ret
      rw [List.take_of_length_le (by simp)] at *
      exact ⟨_, rfl, by rw [HL.out]; exact hown, hb⟩

end
end Go.Proofs.YthhingihjpkipaaDoor.Subj

namespace Go.Proofs.YthhingihjpkipaaDoor.Subj

theorem overlap_comm : ∀ f g : List Tok, overlap f g = overlap g f
  | [], [] => rfl
  | [], _ :: _ => rfl
  | _ :: _, [] => rfl
  | x :: f, y :: g => by
    simp only [overlap]
    rw [overlap_comm f g, Bool.or_comm (x == [62])]
    have h1 : (x == y) = (y == x) := by rw [Bool.eq_iff_iff]; simp; exact eq_comm
    rw [h1, Bool.or_assoc, Bool.or_comm (x == [42]), ← Bool.or_assoc]

theorem overlap_of_takes : ∀ f g s : List Tok, takes f s = true → takes g s = true → overlap f g = true
  | [], [], _, _, _ => rfl
  | [], y :: g, s, h1, h2 => by
    simp [takes] at h1; subst h1
    simp [takes] at h2
  | x :: f, [], s, h1, h2 => by
    simp [takes] at h2; subst h2
    simp [takes] at h1
  | x :: f, y :: g, s, h1, h2 => by
    simp only [overlap]
    by_cases hx : x = [62]
    · simp [hx]
    · by_cases hy : y = [62]
      · simp [hy]
      · cases s with
        | nil => simp [takes, hx] at h1
        | cons z s =>
          simp [takes, hx] at h1
          simp [takes, hy] at h2
          have ih := overlap_of_takes f g s h1.2 h2.2
          simp [hx, hy, ih]
          rcases h1.1 with a | a <;> rcases h2.1 with b | b <;> simp [a, b]

theorem takes_of_covers : ∀ f g s : List Tok, covers f g = true → takes g s = true → takes f s = true
  | [], g, s, h1, h2 => by
    simp [covers] at h1; subst h1; exact h2
  | x :: f, [], s, h1, _ => by simp [covers] at h1
  | x :: f, y :: g, s, h1, h2 => by
    have hs : s ≠ [] := by
      intro e; subst e; simp [takes] at h2
    cases s with
    | nil => exact absurd rfl hs
    | cons z s =>
      by_cases hx : x = [62]
      · simp [takes, hx]
      · simp [covers, hx] at h1
        obtain ⟨⟨hy, hxy⟩, hc⟩ := h1
        simp [takes, hy] at h2
        have ih := takes_of_covers f g s hc h2.2
        simp [takes, hx, ih]
        rcases hxy with a | a
        · exact .inl a
        · rcases h2.1 with b | b
          · exact .inl (a.trans b)
          · exact .inr (a.trans b)

theorem overlap_of_covers : ∀ f g : List Tok, covers f g = true → overlap f g = true
  | [], g, h => by simpa [covers, overlap] using h
  | x :: f, [], h => by simp [covers] at h
  | x :: f, y :: g, h => by
    by_cases hx : x = [62]
    · simp [overlap, hx]
    · simp [covers, hx] at h
      obtain ⟨⟨hy, hxy⟩, hc⟩ := h
      simp [overlap, hx, hy, overlap_of_covers f g hc]
      rcases hxy with a | a
      · exact .inl (.inr a)
      · exact .inl (.inl a)

theorem covers_trans : ∀ f g h : List Tok, covers f g = true → covers g h = true → covers f h = true
  | [], g, h, h1, h2 => by
    simp [covers] at h1; subst h1; exact h2
  | x :: f, [], h, h1, _ => by simp [covers] at h1
  | x :: f, y :: g, [], _, h2 => by simp [covers] at h2
  | x :: f, y :: g, z :: h, h1, h2 => by
    by_cases hx : x = [62]
    · simp [covers, hx]
    · simp [covers, hx] at h1
      obtain ⟨⟨hy, hxy⟩, hc⟩ := h1
      simp [covers, hy] at h2
      obtain ⟨⟨hz, hyz⟩, hd⟩ := h2
      simp [covers, hx, hz, covers_trans f g h hc hd]
      rcases hxy with a | a
      · exact .inl a
      · rcases hyz with b | b
        · exact .inl (a.trans b)
        · exact .inr (a.trans b)

theorem overlap_trans : ∀ f g h : List Tok, covers f g = true → overlap g h = true → overlap f h = true
  | [], g, h, h1, h2 => by
    simp [covers] at h1; subst h1; exact h2
  | x :: f, [], h, h1, _ => by simp [covers] at h1
  | x :: f, y :: g, [], _, h2 => by simp [overlap] at h2
  | x :: f, y :: g, z :: h, h1, h2 => by
    by_cases hx : x = [62]
    · simp [overlap, hx]
    · by_cases hz : z = [62]
      · simp [overlap, hz]
      · simp [covers, hx] at h1
        obtain ⟨⟨hy, hxy⟩, hc⟩ := h1
        simp [overlap, hy, hz] at h2
        obtain ⟨hyz, hd⟩ := h2
        simp [overlap, hx, hz, overlap_trans f g h hc hd]
        rcases hxy with a | a
        · exact .inl (.inr a)
        · rcases hyz with (b | b) | b
          · exact .inl (.inl (a.trans b))
          · exact .inl (.inr (a.trans b))
          · exact .inr b

theorem covers_refl : ∀ f : List Tok, covers f f = true
  | [] => rfl
  | x :: f => by
    by_cases hx : x = [62]
    · simp [covers, hx]
    · simp [covers, hx, covers_refl f]

theorem covers_antisymm : ∀ f g : List Tok, okPieces true f = true → okPieces true g = true → covers f g = true → covers g f = true → f = g
  | [], g, _, _, h1, _ => by simp [covers] at h1; exact h1.symm
  | x :: f, [], _, _, h1, _ => by simp [covers] at h1
  | x :: f, y :: g, o1, o2, h1, h2 => by
    have last : ∀ (t : Tok) (ts : List Tok), okPieces true (t :: ts) = true → t = [62] → ts = [] := by
      intro t ts h e
      subst e
      simp only [okPieces] at h
      have : tokenOk [62] = false := by decide
      rw [this] at h
      simp at h
      exact h.1
    have rest : ∀ (t : Tok) (ts : List Tok), okPieces true (t :: ts) = true → okPieces true ts = true := by
      intro t ts h
      simp only [okPieces, Bool.and_eq_true] at h
      exact h.2
    by_cases hx : x = [62]
    · have hy : y = [62] := by
        by_cases hy : y = [62]
        · exact hy
        · simp [covers, hy, hx] at h2
      have a := last x f o1 hx
      have b := last y g o2 hy
      rw [hx, hy, a, b]
    · by_cases hy : y = [62]
      · simp [covers, hx, hy] at h1
      · simp [covers, hx, hy] at h1 h2
        have ih := covers_antisymm f g (rest x f o1) (rest y g o2) h1.2 h2.2
        rw [ih]
        rcases h1.1 with a | a
        · rcases h2.1 with b | b
          · rw [a, b]
          · rw [b]
        · rw [a]

theorem okPieces_wild : ∀ l : List Tok, okPieces false l = true → okPieces true l = true
  | [], _ => rfl
  | t :: ts, h => by
    simp only [okPieces, Bool.false_and, Bool.false_or, Bool.and_eq_true] at h ⊢
    exact ⟨by rw [h.1]; simp, okPieces_wild ts h.2⟩

theorem token_plain (t : Tok) (h : tokenOk t = true) : t ≠ [42] ∧ t ≠ [62] := by
  constructor
  · intro e; subst e; exact absurd h (by decide)
  · intro e; subst e; exact absurd h (by decide)

theorem takes_plain : ∀ f s : List Tok, okPieces false f = true → (takes f s = true ↔ f = s)
  | [], s, _ => by simp [takes]
  | t :: f, s, h => by
    simp only [okPieces, Bool.false_and, Bool.false_or, Bool.and_eq_true] at h
    obtain ⟨h1, h2⟩ := token_plain t h.1
    cases s with
    | nil => simp [takes, h2]
    | cons x s =>
      simp [takes, h1, h2]
      intro _
      exact takes_plain f s h.2

/-- The text of pieces. -/
def joined : List Tok → List UInt8
  | [] => []
  | [t] => t
  | t :: u :: ts => t ++ 46 :: joined (u :: ts)

theorem joined_pieces : ∀ l : List UInt8, joined (pieces l) = l
  | [] => rfl
  | b :: l => by
    have ih := joined_pieces l
    unfold pieces
    split
    · rename_i h
      cases hp : pieces l with
      | nil => exact absurd hp (pieces_ne l)
      | cons p ps =>
        rw [hp] at ih
        simp [joined, ih, h]
    · split
      · rename_i p ps hp
        rw [hp] at ih
        cases ps with
        | nil => simp [joined] at ih ⊢; exact ih
        | cons q ps => simp [joined] at ih ⊢; exact ih
      · rename_i hp
        exact absurd hp (pieces_ne l)

theorem pieces_inj {a b : List UInt8} (h : pieces a = pieces b) : a = b := by
  rw [← joined_pieces a, ← joined_pieces b, h]

theorem err_zero (wild : Bool) (l : List UInt8) : err wild l = 0 ↔ (pieces l).length ≤ 8 ∧ okPieces wild (pieces l) = true := by
  unfold err
  split
  · constructor
    · intro h; cases h
    · rintro ⟨h, _⟩; omega
  · split
    · rename_i h1 h2; exact ⟨fun _ => ⟨by omega, h2⟩, fun _ => rfl⟩
    · rename_i h1 h2; exact ⟨fun h => (by cases h), fun ⟨_, h⟩ => absurd h h2⟩

theorem err_wild (l : List UInt8) (h : err false l = 0) : err true l = 0 := by
  rw [err_zero] at h ⊢
  exact ⟨h.1, okPieces_wild _ h.2⟩

end Go.Proofs.YthhingihjpkipaaDoor.Subj

namespace Go.Proofs.YthhingihjpkipaaDoor.Subj

/-- A byte of a name. -/
def nameByte (b : UInt8) : Bool := (decide (97 ≤ b.toNat) && decide (b.toNat ≤ 122)) || (decide (48 ≤ b.toNat) && decide (b.toNat ≤ 57)) || b.toNat == 45
def nameOk (t : List UInt8) : Bool := t.all nameByte && (decide (1 ≤ t.length) && decide (t.length ≤ 16))

/-- The first error of filters, 0: none. -/
def firstErr : List Tok → Nat
  | [] => 0
  | f :: r => if err true f = 0 then firstErr r else err true f

/-- Do two overlap? -/
def over (f g : Tok) : Bool := overlap (pieces f) (pieces g)
def clash (fs : List Tok) : Bool := (List.range fs.length).any fun b => (List.range b).any fun a => over (fs.getD b []) (fs.getD a [])

theorem clash_true {fs : List Tok} {a b : Nat} (hab : a < b) (hb : b < fs.length) (h : over (fs.getD b []) (fs.getD a []) = true) : clash fs = true := by
  unfold clash
  rw [List.any_eq_true]
  refine ⟨b, by simpa using hb, ?_⟩
  rw [List.any_eq_true]
  exact ⟨a, by simpa using hab, h⟩

theorem clash_false {fs : List Tok} (h : ∀ b a, b < fs.length → a < b → over (fs.getD b []) (fs.getD a []) = false) : clash fs = false := by
  cases hc : clash fs with
  | false => rfl
  | true =>
    unfold clash at hc
    rw [List.any_eq_true] at hc
    obtain ⟨b, hb, h2⟩ := hc
    rw [List.any_eq_true] at h2
    obtain ⟨a, ha, h3⟩ := h2
    rw [h b a (by simpa using hb) (by simpa using ha)] at h3
    cases h3

def filtersErr (fs : List Tok) : Nat :=
  if 4 < fs.length then 2 else if fs.length = 0 then 1 else if firstErr fs ≠ 0 then firstErr fs else if clash fs then 10 else 0

theorem firstErr_zero {fs : List Tok} : firstErr fs = 0 ↔ ∀ i, i < fs.length → err true (fs.getD i []) = 0 := by
  induction fs with
  | nil => simp [firstErr]
  | cons f r ih =>
    unfold firstErr
    constructor
    · intro h i hi
      by_cases h0 : err true f = 0
      · rw [if_pos h0] at h
        cases i with
        | zero => exact h0
        | succ i => simpa using ih.1 h i (by simpa using hi)
      · rw [if_neg h0] at h
        exact absurd h h0
    · intro h
      have h0 : err true f = 0 := h 0 (by simp)
      rw [if_pos h0]
      exact ih.2 fun i hi => by simpa using h (i + 1) (by simpa using hi)

theorem firstErr_at {fs : List Tok} {k : Nat} (hk : k < fs.length) (h : ∀ i, i < k → err true (fs.getD i []) = 0) (he : err true (fs.getD k []) ≠ 0) : firstErr fs = err true (fs.getD k []) := by
  induction fs generalizing k with
  | nil => simp at hk
  | cons f r ih =>
    unfold firstErr
    cases k with
    | zero => rw [if_neg (by simpa using he)]; rfl
    | succ k =>
      rw [if_pos (by simpa using h 0 (by omega))]
      simpa using ih (by simpa using hk) (fun i hi => by simpa using h (i + 1) (by omega)) (by simpa using he)

/-- The words of a plan's numbers, and the most that each may be. -/
def words : List (List UInt8) := [[109, 115, 103, 115], [98, 121, 116, 101, 115], [97, 103, 101], [112, 101, 114], [115, 105, 122, 101], [100, 105, 115, 99, 97, 114, 100], [107, 101, 101, 112], [119, 105, 110, 100, 111, 119]]
def mosts : List Int := [200, 65536, 100000, 200, 256, 1, 2, 100000]

def inAll (vs : List Int) : Bool := (List.range 8).all fun k => decide (0 ≤ vs.getD k 0) && decide (vs.getD k 0 ≤ mosts.getD k 0)

theorem inAll_true {vs : List Int} (h : ∀ k, k < 8 → 0 ≤ vs.getD k 0 ∧ vs.getD k 0 ≤ mosts.getD k 0) : inAll vs = true := by
  unfold inAll
  rw [List.all_eq_true]
  intro k hk
  have := h k (by simpa using hk)
  rw [Bool.and_eq_true, decide_eq_true_eq, decide_eq_true_eq]
  exact this

theorem inAll_false {vs : List Int} {k : Nat} (hk : k < 8) (h : vs.getD k 0 < 0 ∨ mosts.getD k 0 < vs.getD k 0) : inAll vs = false := by
  unfold inAll
  rw [List.all_eq_false]
  refine ⟨k, by simpa using hk, ?_⟩
  rw [Bool.and_eq_true, decide_eq_true_eq, decide_eq_true_eq]
  omega

/-- What is wrong with a plan. -/
def planErr (name : List UInt8) (fs : List Tok) (vs : List Int) : Nat :=
  if nameOk name then if filtersErr fs = 0 then if inAll vs then 0 else 1 else filtersErr fs else 3

/-- A number's digits, read from the left. -/
def isDigit (b : UInt8) : Bool := decide (48 ≤ b.toNat) && decide (b.toNat ≤ 57)
def digitsVal (l : List UInt8) : Nat := l.foldl (fun n b => 10 * n + (b.toNat - 48)) 0
def numberOf (l : List UInt8) : Int :=
  if l.length = 0 ∨ 9 < l.length ∨ (l.head? = some 48 ∧ 1 < l.length) ∨ l.all isDigit = false then -1 else digitsVal l

theorem digitsVal_snoc (l : List UInt8) (b : UInt8) : digitsVal (l ++ [b]) = 10 * digitsVal l + (b.toNat - 48) := by
  unfold digitsVal
  rw [List.foldl_append]
  rfl

theorem digitsVal_step {l : List UInt8} {b : UInt8} {k : Nat} (h : digitsVal l < 10 ^ k) (hb : isDigit b = true) : digitsVal (l ++ [b]) < 10 ^ (k + 1) := by
  rw [digitsVal_snoc, Nat.pow_succ]
  unfold isDigit at hb
  rw [Bool.and_eq_true, decide_eq_true_eq, decide_eq_true_eq] at hb
  omega

/-- The numbers of a plan's text: for each word still to come its number, 0 where it is not there; and what is left over. -/
def readVals : List (List UInt8) → List Tok → Option (List Int × List Tok)
  | [], w => some ([], w)
  | b :: bs, [] => some (0 :: bs.map (fun _ => 0), [])
  | b :: bs, t :: w =>
    if (b ++ [61]).isPrefixOf t then
      if numberOf (t.drop (b.length + 1)) ≤ 0 then none else (readVals bs w).map fun x => (numberOf (t.drop (b.length + 1)) :: x.1, x.2)
    else (readVals bs (t :: w)).map fun x => (0 :: x.1, x.2)

theorem readVals_nil (bs : List (List UInt8)) : readVals bs [] = some (bs.map (fun _ => 0), []) := by
  cases bs <;> rfl

structure PlanP where
  name : List UInt8
  fs : List Tok
  vs : List Int

/-- What 'Parse' answers. -/
def parseP (s : List UInt8) : Option PlanP × Nat :=
  if 1024 < s.length then (none, 2) else
  match piecesC 32 s with
  | n :: f :: r => match readVals words r with
    | some (vs, []) => if planErr n (piecesC 44 f) vs = 0 then (some ⟨n, piecesC 44 f, vs⟩, 0) else (none, planErr n (piecesC 44 f) vs)
    | _ => (none, 3)
  | _ => (none, 3)

end Go.Proofs.YthhingihjpkipaaDoor.Subj

namespace Go.Proofs.YthhingihjpkipaaDoor.Subj

/-- A number in its bounds. -/
def inB (n lo hi : Int) : Bool := decide (lo ≤ n) && decide (n ≤ hi)

def timesOk (ack wait : Int) (back : List Int) (most pend : Int) : Bool :=
  if ack == 0 then (wait == 0) && (((back.length : Nat) : Int) == 0) && (most == 0) && (pend == 0)
  else inB wait 1 100000 && inB most 0 20 && inB pend 0 50 && back.all fun z => inB z 1 100000

def startOk (src start : Int) : Bool := if src == 3 then inB start 1 999999999 else start == 0

def argsOk (src start ack wait : Int) (back : List Int) (most pend : Int) : Bool :=
  inB src 0 3 && startOk src start && inB ack 0 2 && timesOk ack wait back most pend

/-- What 'Check' answers. -/
def takerErr (name filt : List UInt8) (src start ack wait : Int) (back : List Int) (most pend : Int) : Nat :=
  if nameOk name = true then
    if err true filt = 0 then if 5 < back.length then 2 else if argsOk src start ack wait back most pend = true then 0 else 1
    else err true filt
  else 3

theorem any_not (p : Int → Bool) (l : List Int) : (!(l.any fun z => !p z)) = l.all p := by
  induction l with
  | nil => rfl
  | cons a l ih => rw [List.any_cons, List.all_cons, Bool.not_or, ih, Bool.not_not]

theorem all_takeI (p : Int → Bool) (l : List Int) (k : Nat) (hk : k < l.length) : (l.take (k + 1)).all p = ((l.take k).all p && p (l.getD k 0)) := by
  have e : l.getD k 0 = l[k] := by simp [List.getD, hk]
  rw [List.take_add_one, List.getElem?_eq_getElem hk, e]
  show (l.take k ++ [l[k]]).all p = _
  rw [List.all_append, List.all_cons, List.all_nil, Bool.and_true]

end Go.Proofs.YthhingihjpkipaaDoor.Subj

namespace Go.Proofs.YthhingihjpkipaaDoor.Subj

structure TakerP where
  name : List UInt8
  filt : List UInt8
  src : Int
  start : Int
  ack : Int
  wait : Int
  back : List Int
  most : Int
  pend : Int
  push : Bool

/-- The beginnings of the options, in their order: "from=", "ack=", "wait=", "backoff=", "most=", "pending=", "push". -/
def heads : List Tok := [[102, 114, 111, 109, 61], [97, 99, 107, 61], [119, 97, 105, 116, 61], [98, 97, 99, 107, 111, 102, 102, 61], [109, 111, 115, 116, 61], [112, 101, 110, 100, 105, 110, 103, 61], [112, 117, 115, 104]]

def lastW : Tok := [108, 97, 115, 116]
def newW : Tok := [110, 101, 119]
def noneW : Tok := [110, 111, 110, 101]
def allW : Tok := [97, 108, 108]

/-- An option is laid into a plan; none: it is none. -/
def optT (i : Nat) (v : Tok) (t : TakerP) : Option TakerP :=
  match i with
  | 0 => if v = lastW then some { t with src := 1 } else if v = newW then some { t with src := 2 } else if 0 < numberOf v then some { t with src := 3, start := numberOf v } else none
  | 1 => if v = noneW then some { t with ack := 0 } else if v = allW then some { t with ack := 1 } else none
  | 2 => if 0 < numberOf v then some { t with wait := numberOf v } else none
  | 3 => if ((piecesC 44 v).all fun x => decide (0 < numberOf x)) = true then some { t with back := t.back ++ (piecesC 44 v).map numberOf } else none
  | 4 => if 0 < numberOf v then some { t with most := numberOf v } else none
  | 5 => if 0 < numberOf v then some { t with pend := numberOf v } else none
  | _ => if v = [] then some { t with push := true } else none

/-- What is told from the option i on. -/
def seqF : Nat → Nat → List Tok → TakerP → Option TakerP
  | 0, _, r, t => if r = [] then some t else none
  | k + 1, i, r, t =>
    match r with
    | [] => seqF k (i + 1) [] t
    | x :: r' => if (heads.getD i []).isPrefixOf x = true then (optT i (x.drop (heads.getD i []).length) t).bind (seqF k (i + 1) r') else seqF k (i + 1) (x :: r') t

def seqT (i : Nat) (r : List Tok) (t : TakerP) : Option TakerP := seqF (7 - i) i r t

theorem seqT_end (r : List Tok) (t : TakerP) : seqT 7 r t = if r = [] then some t else none := rfl

theorem seqT_no {i : Nat} (hi : i < 7) (x : Tok) (r : List Tok) (t : TakerP) (h : (heads.getD i []).isPrefixOf x = false) : seqT i (x :: r) t = seqT (i + 1) (x :: r) t := by
  unfold seqT
  obtain ⟨k, hk⟩ : ∃ k, 7 - i = k + 1 := ⟨6 - i, by omega⟩
  have hk2 : 7 - (i + 1) = k := by omega
  rw [hk, hk2]
  conv => lhs; unfold seqF
  simp only [h, Bool.false_eq_true, if_false]

theorem seqT_yes {i : Nat} (hi : i < 7) (x : Tok) (r : List Tok) (t : TakerP) (h : (heads.getD i []).isPrefixOf x = true) : seqT i (x :: r) t = (optT i (x.drop (heads.getD i []).length) t).bind (seqT (i + 1) r) := by
  unfold seqT
  obtain ⟨k, hk⟩ : ∃ k, 7 - i = k + 1 := ⟨6 - i, by omega⟩
  have hk2 : 7 - (i + 1) = k := by omega
  rw [hk, hk2]
  conv => lhs; unfold seqF
  simp only [h, if_true]

theorem seqT_none {i : Nat} (hi : i < 7) (t : TakerP) : seqT i [] t = seqT (i + 1) [] t := by
  unfold seqT
  obtain ⟨k, hk⟩ : ∃ k, 7 - i = k + 1 := ⟨6 - i, by omega⟩
  have hk2 : 7 - (i + 1) = k := by omega
  rw [hk, hk2]
  rfl

theorem seqF_nil : ∀ (k i : Nat) (t : TakerP), seqF k i [] t = some t
  | 0, _, _ => rfl
  | k + 1, i, t => seqF_nil k (i + 1) t

theorem seqT_nil (i : Nat) (t : TakerP) : seqT i [] t = some t := seqF_nil _ _ _

/-- The plan ahead of its options. -/
def startT (n f : List UInt8) : TakerP := ⟨n, f, 0, 0, 2, 0, [], 0, 0, false⟩

def errT (t : TakerP) : Nat := takerErr t.name t.filt t.src t.start t.ack t.wait t.back t.most t.pend

def ansT : Option TakerP → Option TakerP × Nat
  | some t => if errT t = 0 then (some t, 0) else (none, errT t)
  | none => (none, 3)

/-- What 'Parse' answers. -/
def parseT (s : List UInt8) : Option TakerP × Nat :=
  if 1024 < s.length then (none, 2)
  else
    match piecesC 32 s with
    | n :: f :: r => ansT (seqT 0 r (startT n f))
    | _ => (none, 3)

theorem optT_name {i : Nat} {v : Tok} {t t' : TakerP} (h : optT i v t = some t') : t'.name = t.name ∧ t'.filt = t.filt := by
  unfold optT at h
  split at h
  all_goals
    first
      | (split at h
         · simp only [Option.some.injEq] at h; subst h; exact ⟨rfl, rfl⟩
         · split at h
           · simp only [Option.some.injEq] at h; subst h; exact ⟨rfl, rfl⟩
           · split at h
             · simp only [Option.some.injEq] at h; subst h; exact ⟨rfl, rfl⟩
             · cases h)
      | (split at h
         · simp only [Option.some.injEq] at h; subst h; exact ⟨rfl, rfl⟩
         · split at h
           · simp only [Option.some.injEq] at h; subst h; exact ⟨rfl, rfl⟩
           · cases h)
      | (split at h
         · simp only [Option.some.injEq] at h; subst h; exact ⟨rfl, rfl⟩
         · cases h)
end Go.Proofs.YthhingihjpkipaaDoor.Subj

namespace Go.Proofs.YthhingihjpkipaaDoor.Subj

/-- Texts with commas between. -/
def joinC (fs : List Tok) : List UInt8 := Lib.join fs [44]

def hasComma (fs : List Tok) : Bool := fs.any fun f => f.contains 44

/-- A number's word, where it is told. -/
def wordOf (w : List UInt8) (v : Int) : List UInt8 := if 0 < v then [32] ++ w ++ [61] ++ Lib.itoa v else []

def tailK (vs : List Int) (k : Nat) : List UInt8 := (List.range k).flatMap fun j => wordOf (words.getD j []) (vs.getD j 0)

def printL (name : List UInt8) (fs : List Tok) (vs : List Int) : List UInt8 := name ++ [32] ++ joinC fs ++ tailK vs 8

theorem tailK_zero (vs : List Int) : tailK vs 0 = [] := rfl

theorem tailK_told {vs : List Int} {k : Nat} (h : 0 < vs.getD k 0) : tailK vs (k + 1) = tailK vs k ++ ([32] ++ words.getD k [] ++ [61] ++ Lib.itoa (vs.getD k 0)) := by
  unfold tailK
  rw [List.range_succ, List.flatMap_append]
  simp only [List.flatMap_cons, List.flatMap_nil, List.append_nil]
  congr 1
  unfold wordOf
  rw [if_pos h]

theorem tailK_not {vs : List Int} {k : Nat} (h : ¬ 0 < vs.getD k 0) : tailK vs (k + 1) = tailK vs k := by
  unfold tailK
  rw [List.range_succ, List.flatMap_append]
  simp only [List.flatMap_cons, List.flatMap_nil, List.append_nil]
  unfold wordOf
  rw [if_neg h, List.append_nil]

theorem decDigits_len : ∀ (k u : Nat), u < 10 ^ (k + 1) → (Lib.decDigits u).length ≤ k + 1
  | 0, u, h => by
    rw [Lib.decDigits, dif_pos (by simpa using h)]
    simp
  | k + 1, u, h => by
    rw [Lib.decDigits]
    split
    · simp
    · have := decDigits_len k (u / 10) (by rw [Nat.pow_succ] at h; omega)
      simp only [List.length_append, List.length_cons, List.length_nil]
      omega

theorem words_short : ∀ k, (words.getD k []).length ≤ 7 := by
  intro k
  by_cases h : k < 8
  · have : ∀ k, k < 8 → (words.getD k []).length ≤ 7 := by decide
    exact this k h
  · have : words.getD k [] = [] := by
      rw [List.getD_eq_getElem?_getD, List.getElem?_eq_none (by show 8 ≤ k; omega)]
      rfl
    rw [this]; simp

theorem itoa_len {v : Int} (h0 : 0 ≤ v) (h : v ≤ 999999999) : (Lib.itoa v).length ≤ 9 := by
  unfold Lib.itoa
  rw [if_neg (by omega)]
  exact decDigits_len 8 _ (by show v.toNat < 1000000000; omega)

theorem tailK_len {vs : List Int} (h : ∀ k, k < 8 → 0 ≤ vs.getD k 0 ∧ vs.getD k 0 ≤ 999999999) : ∀ k, k ≤ 8 → (tailK vs k).length ≤ 18 * k
  | 0, _ => by simp [tailK]
  | k + 1, hk => by
    have ih := tailK_len h k (by omega)
    by_cases hp : 0 < vs.getD k 0
    · rw [tailK_told hp]
      have h1 := words_short k
      have h2 := itoa_len (h k (by omega)).1 (h k (by omega)).2
      simp only [List.length_append, List.length_cons, List.length_nil]
      omega
    · rw [tailK_not hp]; omega

theorem joinC_len (B : Nat) : ∀ fs : List Tok, (∀ f ∈ fs, f.length ≤ B) → (joinC fs).length ≤ fs.length * (B + 1)
  | [], _ => by simp [joinC, Lib.join, List.intercalate]
  | [f], h => by
    have := h f (by simp)
    simp [joinC, Lib.join, List.intercalate]; omega
  | f :: g :: r, h => by
    have h1 := h f (by simp)
    have h2 := joinC_len B (g :: r) (fun x hx => h x (List.mem_cons_of_mem _ hx))
    have e : joinC (f :: g :: r) = f ++ [44] ++ joinC (g :: r) := by
      simp [joinC, Lib.join, List.intercalate, List.intersperse]
    rw [e]
    simp only [List.length_append, List.length_cons, List.length_nil] at h2 ⊢
    have e2 : (r.length + 1 + 1) * (B + 1) = (r.length + 1) * (B + 1) + (B + 1) := by rw [Nat.add_mul]; omega
    rw [e2]
    omega

theorem joinC_cons (f : Tok) {fs : List Tok} (h : fs ≠ []) : joinC (f :: fs) = f ++ [44] ++ joinC fs := by
  cases fs with
  | nil => exact absurd rfl h
  | cons g r => simp [joinC, Lib.join, List.intercalate, List.intersperse]

theorem joinC_one (f : Tok) : joinC [f] = f := by simp [joinC, Lib.join, List.intercalate]

theorem joinC_snoc (f : Tok) : ∀ {fs : List Tok}, fs ≠ [] → joinC (fs ++ [f]) = joinC fs ++ [44] ++ f
  | [], h => absurd rfl h
  | [g], _ => by rw [List.cons_append, List.nil_append, joinC_cons g (by simp), joinC_one, joinC_one]
  | g :: h :: r, _ => by
    rw [List.cons_append, joinC_cons g (by simp), joinC_cons g (by simp), joinC_snoc f (by simp)]
    simp

theorem inAll_bound {vs : List Int} (h : inAll vs = true) : ∀ k, k < 8 → 0 ≤ vs.getD k 0 ∧ vs.getD k 0 ≤ 100000 := by
  unfold inAll at h
  rw [List.all_eq_true] at h
  intro k hk
  have h1 := h k (by simpa using hk)
  rw [Bool.and_eq_true, decide_eq_true_eq, decide_eq_true_eq] at h1
  have h2 : mosts.getD k 0 ≤ 100000 := by
    have : ∀ k, k < 8 → mosts.getD k 0 ≤ 100000 := by decide
    exact this k hk
  omega

end Go.Proofs.YthhingihjpkipaaDoor.Subj
