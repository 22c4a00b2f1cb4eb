/- PlanSays and PlanBack, from what they are handed. -/
import Derived.Test.YtglgbidcmkncgaaDoorPlanSaysW
import Derived.Test.YtglgbidcmkncgaaDoorPlanBackW
import Derived.Test.YtglgbidcmkncgaaDoorPlanOpen
import Derived.OpenShut
import Derived.ChangeMaps5
namespace Go.Proofs.YtglgbidcmkncgaaDoor.Subj
open Go.RowKit Go.ChangeMaps Go.ChangeAt

set_option maxRecDepth 100000 in
open Go.WideShapes Go.ChangeShapes in
theorem planSays_calls {H : Type} (enc : TypeId × Value → H) (W : World) (base : Nat) (v0 : Value) (d0 : DataW H) (p0 : List MemPlace)
    (h0 : DataW.Trod enc Tryd.prog W 0 (fun _ => true) true 29 v0 d0 p0) (o0 : Value.okWide Tryd.prog W .any base 29 v0)
    (hk : Rows.uptoSmall H ([d0] ++ []) = true) (hM : ML W) (hT : TenLaid W) (hL : WordsLaid W) :
    Calls Tryd.prog 9 #[v0] W fun e w' => e = .returned (.bool true) ∧ Below W.heap.size W w' := by
  have hb : Rows.uptoBulk d0 ≤ 1048576 := by
    have h1 := bulk_bound hk
    have h2 := bulk_part (d := d0) (l := [d0] ++ []) (by simp)
    omega
  obtain ⟨name, ao, n, cap, fs, x0, x1, x2, x3, x4, x5, x6, x7, rfl, hn, hS, hz, hnl, hnm⟩ := open_plan h0 o0 hb
  exact (planSays_walk name ao n cap fs x0 x1 x2 x3 x4 x5 x6 x7 W hnm hn hnl hS hz hM hT hL).mono fun _ _ ⟨a, b⟩ => ⟨a, b.2⟩

set_option maxRecDepth 100000 in
open Go.WideShapes Go.ChangeShapes in
theorem planBack_calls {H : Type} (enc : TypeId × Value → H) (W : World) (base : Nat) (v0 v1 : Value) (d0 d1 : DataW H) (p0 p1 : List MemPlace)
    (h0 : DataW.Trod enc Tryd.prog W 0 (fun _ => true) true 29 v0 d0 p0) (h1 : DataW.Trod enc Tryd.prog W 0 (fun _ => true) true 9 v1 d1 p1)
    (o0 : Value.okWide Tryd.prog W .any base 29 v0) (o1 : Value.okWide Tryd.prog W .any base 9 v1)
    (hk : Rows.uptoSmall H ([d0, d1] ++ []) = true) (hM : ML W) (hT : TenLaid W) :
    Calls Tryd.prog 10 #[v0, v1] W fun e w' => e = .returned (.bool true) ∧ Below W.heap.size W w' := by
  have hb : Rows.uptoBulk d0 ≤ 1048576 := by
    have h1 := bulk_bound hk
    have h2 := bulk_part (d := d0) (l := [d0, d1] ++ []) (by simp)
    omega
  obtain ⟨name, ao, n, cap, fs, x0, x1, x2, x3, x4, x5, x6, x7, rfl, hn, hS, hz, hnl, hnm⟩ := open_plan h0 o0 hb
  obtain ⟨s, rfl, rfl, rfl, _⟩ := open_string Tryd.underlying9 o1 h1
  exact (planBack_walk name ao n cap fs x0 x1 x2 x3 x4 x5 x6 x7 s W hnm hn hnl hS hz (text_bound hk (by simp)) hM hT).mono fun _ _ ⟨a, b⟩ => ⟨a, b.2⟩
end Go.Proofs.YtglgbidcmkncgaaDoor.Subj
