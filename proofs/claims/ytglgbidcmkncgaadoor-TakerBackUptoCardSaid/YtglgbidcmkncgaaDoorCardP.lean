/- What the cards share whose laws read the words of plans: a world whose tables are laid; what the laid words give. -/
import Derived.Test.YtglgbidcmkncgaaDoorCard
import Derived.Test.YtglgbidcmkncgaaDoorPlanRead2
import Derived.Lib.LaidTab
import Derived.LaidSub
namespace Go.Proofs.YtglgbidcmkncgaaDoor
open Go.ChangeShapes Go.WideShapes Go.ChangeAt Go.RowKit

def wordsL : List (String × DataW Unit) := [("unicode/utf8.acceptRanges", Rows.laid_unicode_utf8_acceptRanges), ("rillbook/rillref.planWords", Rows.laid_rillbook_rillref_planWords), ("unicode/utf8.first", Rows.laid_unicode_utf8_first)]

/-- A world for the witness: the tables of texts and the words as they are laid. -/
noncomputable def laidWorldP (os : Os) : World :=
  { laidWorld os with heap := (laidWorld os).heap.modify 0 (fun
      | .cells _ t frozen => .cells (Subj.words.map fun z => Value.string ⟨z.toArray⟩).toArray t frozen
      | o => o) }

set_option maxRecDepth 100000 in
theorem laid_metP (os : Os) (args : Array Value) : laidMet Tryd.prog wordsL ((laidWorldP os).forCall (fun _ _ => 0) ⟨#[], args, []⟩).memory :=
  laidMet_of_run' 8 (by kernel_rfl) (by kernel_rfl)

/-- An array of texts that reads as a table holds the table's texts, cell for cell. -/
theorem cells_of_texts {H : Type} {enc : TypeId × Value → H} {P : Program} {w : World} {base : Nat} {sp : Nat → Bool} {held : Bool} {fuel : Nat} {t e : TypeId} {n : Nat} {cs : List Value} {zs : List (List UInt8)} {p : List MemPlace}
    (ht : P.underlying t = some (.array n e)) (he : P.underlying e = some .string) (hce : P.cellsOf e = 1) (hct : P.cellsOf t = n)
    (h : DataW.trod enc P w base sp held fuel t cs = some (.agg (zs.map fun z => .lit (.string z)), p)) : cs = zs.map fun z => Value.string ⟨z.toArray⟩ := by
  cases fuel with
  | zero => simp [DataW.trod] at h
  | succ fuel =>
    simp only [DataW.trod, ht, hce, hct, Nat.mul_one] at h
    split at h
    · rename_i hl
      obtain ⟨xs, hm, hx⟩ := Option.map_eq_some_iff.1 h
      have hxs : xs.map (·.1) = zs.map fun z => (DataW.lit (.string z) : DataW H) := by
        have := congrArg Prod.fst hx
        simpa using this
      have hxl : xs.length = n := by simpa using Lib.mapM_length hm
      have hzl : zs.length = n := by
        have := congrArg List.length hxs
        simp at this
        omega
      apply List.ext_getElem?
      intro i
      by_cases hi : i < n
      · obtain ⟨b, hb, hf⟩ := Lib.mapM_at hm i i (by simp [hi])
        obtain ⟨z, hc, rfl, _⟩ := DataW.trod_string he hf
        have h1 : cs[i]? = some (.string z) := by
          have := congrArg (·[0]?) hc
          simpa [List.getElem?_take, List.getElem?_drop] using this
        have h2 : (xs.map (·.1))[i]? = some (DataW.lit (.string z.data.toList) : DataW H) := by simp [hb]
        rw [hxs] at h2
        simp only [List.getElem?_map, Option.map_eq_some_iff, DataW.lit.injEq, Lit.string.injEq] at h2
        obtain ⟨z', hz', hz2⟩ := h2
        subst hz2
        simp [h1, hz']
      · rw [List.getElem?_eq_none (by omega), List.getElem?_eq_none (by simp; omega)]
    · cases h

theorem laidVars_at {P : Program} {w : World} {n : String} {d : DataW Unit} : ∀ {l : List (String × DataW Unit)} {ps : List MemPlace}, DataW.LaidVars P w l ps → (n, d) ∈ l →
    ∃ g t cs fuel p, P.globalNamed n = some g ∧ (P.globals[g]?).map (·.type) = some t ∧ w.var? P n = some cs ∧ DataW.trod (fun _ => ()) P w 0 (fun _ => true) false fuel t cs.toList = some (d, p)
  | [], _, _, h => by cases h
  | (n', d') :: r, ps, hl, h => by
    obtain ⟨g, t, cs, fuel, p, q, h1, h2, h3, h4, h5, _⟩ := hl
    rcases List.mem_cons.1 h with e | h
    · cases e
      exact ⟨g, t, cs, fuel, p, h1, h2, h3, h4⟩
    · exact laidVars_at h5 h

theorem planWords_data : (Rows.laid_rillbook_rillref_planWords : DataW Unit) = .agg (Subj.words.map fun z => .lit (.string z)) := rfl

theorem wordsLaid_of {W : World} {l : List (String × DataW Unit)} (h : laidMet Tryd.prog l W) (hin : ("rillbook/rillref.planWords", Rows.laid_rillbook_rillref_planWords) ∈ l) : Subj.WordsLaid W := by
  obtain ⟨ps, hl, _⟩ := h
  obtain ⟨g, t, cs, fuel, p, hg, ht, hvar, hd⟩ := laidVars_at hl hin
  have hg' : Tryd.prog.globalNamed "rillbook/rillref.planWords" = some 0 := by kernel_rfl
  obtain rfl := Option.some.inj (hg'.symm.trans hg)
  have ht' : (Tryd.prog.globals[0]?).map (·.type) = some 98 := by kernel_rfl
  obtain rfl := Option.some.inj (ht'.symm.trans ht)
  rw [planWords_data] at hd
  have hcs := cells_of_texts (n := 8) (e := 9) (by kernel_rfl) (by kernel_rfl) (by kernel_rfl) (by kernel_rfl) hd
  intro k hk
  rw [World.var?_cell hg' hvar k]
  rw [← Array.getElem?_toList, hcs]
  unfold Subj.wordAt
  have : k < Subj.words.length := hk
  simp [List.getD, this]

end Go.Proofs.YtglgbidcmkncgaaDoor
