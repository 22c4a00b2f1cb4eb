/- IndexFinds, from what it is handed. -/
import Derived.Test.YtpmffneohcbhbaaDoorFinds
import Derived.Test.YtpmffneohcbhbaaDoorPlayOpen
import Derived.OpenShut
import Derived.ChangeMaps5
namespace Go.Proofs.YtpmffneohcbhbaaDoor.Shf
open Go.RowKit Go.ChangeMaps Go.ChangeAt
open Subj (ML)

set_option maxRecDepth 100000 in
open Go.WideShapes Go.ChangeShapes in
theorem indexFinds_calls {H : Type} (enc : TypeId × Value → H) (W : World) (base : Nat) (v0 v1 v2 : Value) (d0 d1 d2 : DataW H) (p0 p1 p2 : List MemPlace)
    (h0 : DataW.Trod enc Tryd.prog W 0 (fun _ => true) true 43 v0 d0 p0) (h1 : DataW.Trod enc Tryd.prog W 0 (fun _ => true) true 9 v1 d1 p1) (h2 : DataW.Trod enc Tryd.prog W 0 (fun _ => true) true 3 v2 d2 p2)
    (o0 : Value.okWide Tryd.prog W .any base 43 v0) (o1 : Value.okWide Tryd.prog W .any base 9 v1) (o2 : Value.okWide Tryd.prog W .any base 3 v2)
    (hk : Rows.uptoSmall H ([d0, d1, d2] ++ []) = true) (hM : ML W) :
    Calls Tryd.prog 4 #[v0, v1, v2] W fun e w' => e = .returned (.bool true) ∧ Below W.heap.size W w' := by
  have hb : Rows.uptoBulk d0 ≤ 1048576 := by
    have h1 := bulk_bound hk
    have h2 := bulk_part (d := d0) (l := [d0, d1, d2] ++ []) (by simp)
    omega
  obtain ⟨s, rfl, rfl, rfl, _⟩ := open_string Tryd.underlying9 o1 h1
  obtain ⟨num, rfl, _, _, _⟩ := open_int Tryd.underlying3 o2 h2
  obtain ⟨a, n, cap, rfl⟩ := okWide_slice Tryd.underlying43 o0
  obtain ⟨fuel, hf⟩ := h0
  obtain ⟨ao, n', cap', fs, hcs, hl, hS, hsz, hn⟩ := open_names hf hb
  simp [Value.cells] at hcs
  obtain ⟨rfl, rfl, rfl⟩ := hcs
  exact indexFinds_walk hM a n cap fs s num hl hS hsz (text_bound hk (by simp)) hn
end Go.Proofs.YtpmffneohcbhbaaDoor.Shf
