/- (*Index).Find, walked. -/
import Derived.Test.YtpmffneohcbhbaaDoorIdxWalk2
namespace Go.Proofs.YtpmffneohcbhbaaDoor.Idx
open Go.RowKit Heap
open Subj (Tok ML pieces StrsAt strAt Strs)

/-- What 'Find' answers. -/
def FindPost (er : Nat) (L : Ents) (w : World) (e : Ending) (w' : World) : Prop :=
  Below w.heap.size w w' ∧ ((er ≠ 0 ∧ e = .returned (.tuple #[.slice none 0 0, .int .i64 er])) ∨
    (er = 0 ∧ ∃ v, e = .returned (.tuple #[v, .int .i64 0]) ∧ Row w' 40 2 v L.length (entV L) ∧ ∀ k, own v k → w.heap.size ≤ k))

section
variable {W w : World} {M : Nat → Prop} {x : Nat} {H : Hp} {vf : Nat → Value} {cnt N : Nat}

set_option maxHeartbeats 4000000 in
set_option maxRecDepth 100000 in
theorem findAll_any (hG : Good N H x) (hM : IdxAt W M x H vf cnt w) (hN : N ≤ 100000) (hm : ML W) (s : ByteArray) (hs : s.size ≤ 1048576) (hl : (walkP H 8 x (pieces s.data.toList)).length ≤ 1000000) :
    Calls Tryd.prog 17 #[ptrV x, .string s] w (FindPost (Subj.err true s.data.toList) (toldL (walkP H 8 x (pieces s.data.toList))) w) := by
  have HFI := Lib.hid (Subj.filter_any s w hs (hm.below hM.below))
  have HSP := Lib.hid (fun w1 hm1 => split_dot s w1 hs hm1)
  have hpl := Subj.pieces_size s hs
  have hne := Subj.pieces_ne s.data.toList
  generalize Subj.err true s.data.toList = er at *
  generalize pieces s.data.toList = l at *
  obtain ⟨rd, hrd, hrp⟩ := hG.root
  have hx := hM.lt hrd
  have HG := Lib.hid hG; have HM := Lib.hid hM; have HRD := Lib.hid hrd; have HML := Lib.hid hm; have HRP := Lib.hid hrp; have HLN := Lib.hid hl
  clear hG hM hm hs hrd hrp hl
  go_enter Tryd.func17, Tryd.ntmps17
  go_wp2_with fail
  with_reducible refine HFI.out.mono ?_
  rintro e w1 ⟨rfl, hb1⟩
  have HB1 := Lib.hid hb1
  clear hb1 HFI
  by_cases he : er = 0
  · subst he
    have HM1 := Lib.hid (HM.out.next HB1.out.drew)
    have HSP2 := Lib.hid (HSP.out w1.drew (HML.out.below HM1.out.below))
    obtain ⟨g, hgg⟩ : ∃ g, w1.drew.heap.size = g := ⟨_, rfl⟩
    have hgw : w.heap.size ≤ g := by rw [← hgg]; exact HB1.out.drew.size
    have HWK := Lib.hid (fun (w3 : World) (hst : StrsAt w3 g 0 l) (hb3 : Below w1.drew.heap.size w1.drew w3) => walk_any HG.out hN 8 (v := .slice none 0 0) (fv := .slice (some ⟨g, 0, none⟩) l.length l.length) (acc := []) (HM1.out.next hb3) HRD.out (by omega) ⟨_, l.length, rfl, Nat.le_refl _, fun _ => ⟨g, 0, rfl, hst⟩⟩ hpl (fun j hj => ⟨(by
      simp only [own, Value.ownBlock, Option.some.injEq] at hj
      subst hj
      exact strsAt_lt hst hne), fun h => by simp [own, Value.ownBlock] at h⟩) (Row.nil _ _ _) (fun k hk => by simp [own, Value.ownBlock] at hk) (by simpa using HLN.out))
    rw [hgg] at HSP2 HWK
    have HJ : (⟨(joinT ([] : List Tok)).toArray⟩ : ByteArray) = ⟨#[]⟩ := rfl
    simp only [HRP.out, HJ, List.nil_append] at HWK
    clear HJ
    have HBB := Lib.hid (show Below w.heap.size w w1.drew from HB1.out.drew)
    clear hgg HSP
    go_wp2_with fail
    go_region_with (first
      | (go_at_call 50; (with_reducible refine HSP2.out.mono ?_); rintro e w3 ⟨rfl, hst, hb3⟩; have HST := Lib.hid hst; have HB3 := Lib.hid hb3; clear hst hb3)
      | (go_at_call 59; (with_reducible refine (HWK.out _ HST.out HB3.out).mono ?_); rintro e w4 ⟨v4, rfl, r4, t4, o4⟩))
    have HF := Lib.hid (show FindPost 0 (toldL (walkP H 8 x l)) w (.returned (.tuple #[v4, .int .i64 0])) w4 from by
      have h3 : Below w.heap.size w w4 := (HBB.out.trans (HB3.out.mono hgw)).trans ((t4.below (Nat.le_refl _) (fun k hk => by simp [own, Value.ownBlock] at hk)).mono (HBB.out.trans (HB3.out.mono hgw)).size)
      refine ⟨h3, .inr ⟨rfl, v4, rfl, r4, fun k hk => ?_⟩⟩
      rcases o4 k hk with h | h
      · simp [own, Value.ownBlock] at h
      · exact Nat.le_trans (HBB.out.trans (HB3.out.mono hgw)).size h)
    clear r4 t4 o4
    go_wp2_with fail
    go_ret2
    exact HF.out
  · have he0 : ((er : Int) != 0) = true := by simpa using he
    have HF := Lib.hid (show FindPost er (toldL (walkP H 8 x l)) w (.returned (.tuple #[.slice none 0 0, .int .i64 er])) w1 from ⟨HB1.out, .inl ⟨he, rfl⟩⟩)
    clear he
    go_wp2_with fail
    go_ret2
    exact HF.out
end
end Go.Proofs.YtpmffneohcbhbaaDoor.Idx
