/- Parts of the proof, joined: VaultCompacts, from what it is handed. -/
import Derived.Test.YtidacfhdhdnidaaGreatDoorVaultCompactsUptoM1
import Derived.OpenShut
import Derived.ChangeMaps5
namespace Go.Proofs.YtidacfhdhdnidaaGreatDoor.Vlt
open Go.RowKit Go.ChangeMaps Go.ChangeAt
open Subj (ML)

set_option maxRecDepth 100000 in
open Go.WideShapes Go.ChangeShapes in
theorem vaultCompacts_calls {H : Type} (enc : TypeId × Value → H) (W : World) (base : Nat) (v0 v1 v2 : Value) (d0 d1 d2 : DataW H) (p0 p1 p2 : List MemPlace)
    (h0 : DataW.Trod enc Tryz.prog W 0 (fun _ => true) true 3 v0 d0 p0) (h1 : DataW.Trod enc Tryz.prog W 0 (fun _ => true) true 3 v1 d1 p1) (h2 : DataW.Trod enc Tryz.prog W 0 (fun _ => true) true 25 v2 d2 p2)
    (o0 : Value.okWide Tryz.prog W .any base 3 v0) (o1 : Value.okWide Tryz.prog W .any base 3 v1) (o2 : Value.okWide Tryz.prog W .any base 25 v2)
    (hk : Rows.uptoSmall H ([d0, d1, d2] ++ []) = true) (hM : ML W) :
    Calls Tryz.prog 6 #[v0, v1, v2] W fun e w' => e = .returned (.bool true) ∧ Below W.heap.size W w' := by
  have hb1 : Rows.uptoBulk d2 ≤ 1048576 := by
    have h1 := bulk_bound hk
    have h2 := bulk_part (d := d2) (l := [d0, d1, d2] ++ []) (by simp)
    omega
  obtain ⟨room, rfl, _, _, _⟩ := open_int Tryz.underlying3 o0 h0
  obtain ⟨size, rfl, _, _, _⟩ := open_int Tryz.underlying3 o1 h1
  obtain ⟨a, n, cap, rfl⟩ := okWide_slice Tryz.underlying25 o2
  obtain ⟨fuel, hf⟩ := h2
  obtain ⟨ao, n', cap', l, hcs, hl, hfits⟩ := Sto.open_recs hf hb1
  simp [Value.cells] at hcs
  obtain ⟨rfl, rfl, rfl⟩ := hcs
  exact vaultCompacts_walk hM hl hfits room size
end Go.Proofs.YtidacfhdhdnidaaGreatDoor.Vlt
