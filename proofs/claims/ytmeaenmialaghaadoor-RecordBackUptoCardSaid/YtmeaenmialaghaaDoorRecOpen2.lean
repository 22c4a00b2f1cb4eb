/- The laws RecordBack, RecordTurned as their cards want them. -/
import Derived.Test.YtmeaenmialaghaaDoorRecTurned
import Derived.Test.YtmeaenmialaghaaDoorRecOpen
import Derived.ChangeMaps5
namespace Go.Proofs.YtmeaenmialaghaaDoor.Rec
open Go.RowKit Subj

open Go.WideShapes Go.ChangeShapes Go.ChangeMaps in
theorem recordBack_calls {H : Type} (enc : TypeId × Value → H) (W : World) (base : Nat) (v0 v1 v2 : Value) (d0 d1 d2 : DataW H) (p0 p1 p2 : List MemPlace)
    (h0 : DataW.Trod enc Tryd.prog W 0 (fun _ => true) true 32 v0 d0 p0) (h1 : DataW.Trod enc Tryd.prog W 0 (fun _ => true) true 9 v1 d1 p1) (h2 : DataW.Trod enc Tryd.prog W 0 (fun _ => true) true 3 v2 d2 p2)
    (o0 : Value.okWide Tryd.prog W .any base 32 v0) (o1 : Value.okWide Tryd.prog W .any base 9 v1) (o2 : Value.okWide Tryd.prog W .any base 3 v2)
    (hk : Rows.uptoSmall H ([d0, d1, d2] ++ []) = true) (hM : ML W) :
    Calls Tryd.prog 10 #[v0, v1, v2] W fun e w' => e = .returned (.bool true) ∧ Below W.heap.size W w' := by
  obtain ⟨k, q, t, s, h, d, rfl, _, _, _, x, y, z, rfl⟩ := open_record h0 o0
  obtain ⟨m, rfl, rfl, rfl, _⟩ := open_string Tryd.underlying9 o1 h1
  obtain ⟨a, rfl, _⟩ := open_int Tryd.underlying3 o2 h2
  exact (recordBack_walk k q t s h d m a W (agg_text hk (List.mem_cons_self ..) (by simp)) (agg_text hk (List.mem_cons_self ..) (by simp)) (agg_text hk (List.mem_cons_self ..) (by simp)) (text_bound hk (by simp)) hM).mono fun _ _ ⟨a, b⟩ => ⟨a, b.2⟩

open Go.WideShapes Go.ChangeShapes Go.ChangeMaps in
theorem recordTurned_calls {H : Type} (enc : TypeId × Value → H) (W : World) (base : Nat) (v0 v1 : Value) (d0 d1 : DataW H) (p0 p1 : List MemPlace)
    (h0 : DataW.Trod enc Tryd.prog W 0 (fun _ => true) true 32 v0 d0 p0) (h1 : DataW.Trod enc Tryd.prog W 0 (fun _ => true) true 3 v1 d1 p1)
    (o0 : Value.okWide Tryd.prog W .any base 32 v0) (o1 : Value.okWide Tryd.prog W .any base 3 v1)
    (hk : Rows.uptoSmall H ([d0, d1] ++ []) = true) (hM : ML W) :
    Calls Tryd.prog 11 #[v0, v1] W fun e w' => e = .returned (.bool true) ∧ Below W.heap.size W w' := by
  obtain ⟨k, q, t, s, h, d, rfl, _, _, _, x, y, z, rfl⟩ := open_record h0 o0
  obtain ⟨a, rfl, _⟩ := open_int Tryd.underlying3 o1 h1
  exact (recordTurned_walk k q t s h d a W (agg_text hk (List.mem_cons_self ..) (by simp)) (agg_text hk (List.mem_cons_self ..) (by simp)) (agg_text hk (List.mem_cons_self ..) (by simp)) hM).mono fun _ _ ⟨a, b⟩ => ⟨a, b.2⟩
end Go.Proofs.YtmeaenmialaghaaDoor.Rec
