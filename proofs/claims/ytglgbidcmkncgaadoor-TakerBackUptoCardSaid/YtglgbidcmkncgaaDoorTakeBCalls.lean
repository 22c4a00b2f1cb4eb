/- TakerBack, from what it is handed. -/
import Derived.Test.YtglgbidcmkncgaaDoorTakeBackW
import Derived.Test.YtglgbidcmkncgaaDoorTakeOpenB
namespace Go.Proofs.YtglgbidcmkncgaaDoor.Subj
open Go.RowKit Go.ChangeMaps Go.ChangeAt

set_option maxRecDepth 100000 in
open Go.WideShapes Go.ChangeShapes in
theorem takerBack_calls {H : Type} (enc : TypeId × Value → H) (W : World) (base : Nat) (v0 v1 : Value) (d0 d1 : DataW H) (p0 p1 : List MemPlace)
    (h0 : DataW.Trod enc Tryd.prog W 0 (fun _ => true) true 37 v0 d0 p0) (h1 : DataW.Trod enc Tryd.prog W 0 (fun _ => true) true 9 v1 d1 p1)
    (o0 : Value.okWide Tryd.prog W .any base 37 v0) (o1 : Value.okWide Tryd.prog W .any base 9 v1)
    (hk : Rows.uptoSmall H ([d0, d1] ++ []) = true) (hM : ML W) (hT : TenLaid W) :
    Calls Tryd.prog 11 #[v0, v1] W fun e w' => e = .returned (.bool true) ∧ Below W.heap.size W w' := by
  have hb : Rows.uptoBulk d0 ≤ 1048576 := by
    have h1 := bulk_bound hk
    have h2 := bulk_part (d := d0) (l := [d0, d1] ++ []) (by simp)
    omega
  obtain ⟨name, filt, src, start, ack, wait, most, pend, push, ao, n, cap, back, rfl, hnm, hfl, hn, hnl, hB⟩ := open_takerT h0 o0 hb
  obtain ⟨s, rfl, rfl, rfl, _⟩ := open_string Tryd.underlying9 o1 h1
  exact (takerBack_walk name filt src start ack wait most pend push ao n cap back s W hnm hfl hn hnl hB (text_bound hk (by simp)) hM hT).mono fun _ _ ⟨a, b⟩ => ⟨a, b.2⟩
end Go.Proofs.YtglgbidcmkncgaaDoor.Subj
