/- What the cards share whose laws print numbers: a world whose tables are laid; what the laid powers of ten give. -/
import Derived.Test.YtglgbidcmkncgaaDoorCardP
import Derived.Test.YtglgbidcmkncgaaDoorPlanSay
namespace Go.Proofs.YtglgbidcmkncgaaDoor
open Go.ChangeShapes Go.WideShapes Go.ChangeAt Go.RowKit

def tenL : List (String × DataW Unit) := [("math/bits.deBruijn32tab", Rows.laid_math_bits_deBruijn32tab), ("math/bits.deBruijn64tab", Rows.laid_math_bits_deBruijn64tab), ("internal/strconv.uint64pow10", Rows.laid_internal_strconv_uint64pow10), ("unicode/utf8.acceptRanges", Rows.laid_unicode_utf8_acceptRanges), ("unicode/utf8.first", Rows.laid_unicode_utf8_first)]

def tenWordsL : List (String × DataW Unit) := [("math/bits.deBruijn32tab", Rows.laid_math_bits_deBruijn32tab), ("math/bits.deBruijn64tab", Rows.laid_math_bits_deBruijn64tab), ("internal/strconv.uint64pow10", Rows.laid_internal_strconv_uint64pow10), ("unicode/utf8.acceptRanges", Rows.laid_unicode_utf8_acceptRanges), ("rillbook/rillref.planWords", Rows.laid_rillbook_rillref_planWords), ("unicode/utf8.first", Rows.laid_unicode_utf8_first)]

def bruijn32 : List Nat := [0, 1, 28, 2, 29, 14, 24, 3, 30, 22, 20, 15, 25, 17, 4, 8, 31, 27, 13, 23, 21, 19, 16, 7, 26, 12, 18, 6, 11, 5, 10, 9]
def bruijn64 : List Nat := [0, 1, 56, 2, 57, 49, 28, 3, 61, 58, 42, 50, 38, 29, 17, 4, 62, 47, 59, 36, 45, 43, 51, 22, 53, 39, 33, 30, 24, 18, 12, 5, 63, 55, 48, 27, 60, 41, 37, 16, 46, 35, 44, 21, 52, 32, 23, 11, 54, 26, 40, 15, 34, 20, 31, 10, 25, 14, 19, 9, 13, 8, 7, 6]

/-- A world for the witness: the tables as they are laid. -/
noncomputable def laidWorldT (os : Os) : World :=
  { laidWorldP os with heap := (((laidWorldP os).heap.modify 2 (fun
      | .cells _ t frozen => .cells (Lib.pow10Tab.map fun z => Value.int .u64 z).toArray t frozen
      | o => o)).modify 5 (fun
      | .cells _ t frozen => .cells (bruijn32.map fun (z : Nat) => Value.int .u8 z).toArray t frozen
      | o => o)).modify 6 (fun
      | .cells _ t frozen => .cells (bruijn64.map fun (z : Nat) => Value.int .u8 z).toArray t frozen
      | o => o) }

set_option maxRecDepth 100000 in
theorem laid_metT (os : Os) (args : Array Value) : laidMet Tryd.prog tenL ((laidWorldT os).forCall (fun _ _ => 0) ⟨#[], args, []⟩).memory :=
  laidMet_of_run' 8 (by kernel_rfl) (by kernel_rfl)

set_option maxRecDepth 100000 in
theorem laid_metTW (os : Os) (args : Array Value) : laidMet Tryd.prog tenWordsL ((laidWorldT os).forCall (fun _ _ => 0) ⟨#[], args, []⟩).memory :=
  laidMet_of_run' 8 (by kernel_rfl) (by kernel_rfl)

theorem pow10_data : (Rows.laid_internal_strconv_uint64pow10 : DataW Unit) = Lib.tabData .u64 Lib.pow10Tab := rfl

theorem tenLaid_of {W : World} {l : List (String × DataW Unit)} (h : laidMet Tryd.prog l W) (hin : ("internal/strconv.uint64pow10", Rows.laid_internal_strconv_uint64pow10) ∈ l) : Subj.TenLaid W := by
  obtain ⟨ps, hl, _⟩ := h
  obtain ⟨g, t, cs, fuel, p, hg, ht, hvar, hd⟩ := laidVars_at hl hin
  have hg' : Tryd.prog.globalNamed "internal/strconv.uint64pow10" = some 2 := by kernel_rfl
  obtain rfl := Option.some.inj (hg'.symm.trans hg)
  have ht' : (Tryd.prog.globals[2]?).map (·.type) = some 175 := by kernel_rfl
  obtain rfl := Option.some.inj (ht'.symm.trans ht)
  rw [pow10_data] at hd
  have hcs := Lib.cells_of_tab (n := 20) (e := 168) (by kernel_rfl) (by kernel_rfl) (by kernel_rfl) (by kernel_rfl) hd
  unfold Subj.TenLaid Lib.TabIs
  rw [hvar]
  congr 1
  apply Array.ext'
  rw [hcs]

end Go.Proofs.YtglgbidcmkncgaaDoor
