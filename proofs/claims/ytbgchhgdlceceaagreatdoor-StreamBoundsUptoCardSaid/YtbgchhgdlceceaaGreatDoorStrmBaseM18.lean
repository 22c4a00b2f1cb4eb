/- Parts of the proof, joined: (*node).walk, walked by its own recursion.; (*node).walk: kid by kid.; (*Index).Find, walked. -/
import Derived.Test.YtbgchhgdlceceaaGreatDoorStrmBaseM17
namespace Go.Proofs.YtbgchhgdlceceaaGreatDoor.Idx
open Go.RowKit Heap
open Subj (Tok ML pieces StrsAt strAt Strs)

def entC (e : Tok × Int) : List Value := [.string ⟨e.1.toArray⟩, .int .i64 e.2]
def entV (l : Ents) : List Value := l.flatMap entC

theorem entV_append (a b : Ents) : entV (a ++ b) = entV a ++ entV b := by simp [entV]
theorem toldL_append (a b : List (List Tok × Int)) : toldL (a ++ b) = toldL a ++ toldL b := by simp [toldL]
theorem toldL_len (a : List (List Tok × Int)) : (toldL a).length = a.length := by simp [toldL]

/-- What a walk leaves: so many entries more. -/
def WalkPost (w : World) (v : Value) (A : Ents) (e : Ending) (w' : World) : Prop :=
  ∃ v', e = .returned v' ∧ Row w' 124 2 v' A.length (entV A) ∧ Heap.Touch (own v) w w' ∧ ∀ k, own v' k → own v k ∨ w.heap.size ≤ k

/-- The slice of entries lies apart from the tree, and above W. -/
def OutOk (W : World) (M : Nat → Prop) (v : Value) : Prop := ∀ k, own v k → W.heap.size ≤ k ∧ ¬ M k

section
variable {W : World} {M : Nat → Prop} {x : Nat} {H : Hp} {vf : Nat → Value} {cnt N : Nat}

theorem IdxAt.touched {w w' : World} {v : Value} (h : IdxAt W M x H vf cnt w) (ho : OutOk W M v) (ht : Heap.Touch (own v) w w') : IdxAt W M x H vf cnt w' :=
  h.kept (h.below.trans (ht.below h.below.size fun k hk => (ho k hk).1)) ht.size (ht.same fun k hM hk => (ho k hk).2 hM)

theorem OutOk.next {w : World} {v v' : Value} (h : IdxAt W M x H vf cnt w) (ho : OutOk W M v) (hv : ∀ k, own v' k → own v k ∨ w.heap.size ≤ k) : OutOk W M v' := fun k hk => by
  rcases hv k hk with h1 | h1
  · exact ho k h1
  · exact ⟨Nat.le_trans h.below.size h1, fun hM => by have := h.bM k hM; omega⟩

theorem WalkPost.ext {w : World} {v : Value} {A B : Ents} {e : Ending} {w' : World} (h : WalkPost w v A e w') (hAB : A = B) : WalkPost w v B e w' := hAB ▸ h

/-- One call behind another. -/
theorem WalkPost.after {w w1 w' : World} {v v1 : Value} {A : Ents} {e : Ending} (ht : Heap.Touch (own v) w w1) (hv : ∀ k, own v1 k → own v k ∨ w.heap.size ≤ k) (h : WalkPost w1 v1 A e w') : WalkPost w v A e w' := by
  obtain ⟨v', rfl, h1, h2, h3⟩ := h
  refine ⟨v', rfl, h1, ht.trans h2 fun k hk hf => ?_, fun k hk => ?_⟩
  · rcases hv k hf with e | e
    · exact e
    · omega
  · rcases h3 k hk with e | e
    · exact hv k e
    · exact .inr (Nat.le_trans ht.size e)

set_option maxHeartbeats 4000000 in
set_option maxRecDepth 100000 in
/-- The filter is at its end. -/
theorem walk_nil {w : World} (hM : IdxAt W M x H vf cnt w) {b : Nat} {nd : NodeP} (hb : H b = some nd) (d : Nat) (ao : Option Addr) (cap : Nat) (v : Value) (acc : Ents) (hrow : Row w 124 2 v acc.length (entV acc)) (hlen : acc.length ≤ 1000000) :
    Calls Tryz.prog 190 #[ptrV b, .slice ao 0 cap, .string ⟨(joinT nd.path).toArray⟩, v] w (WalkPost w v (acc ++ toldL (walkP H d b []))) := by
  obtain ⟨c0, c1, c2, c3, cf⟩ := node_of (hM.node b nd hb)
  have hblt := hM.lt hb
  rw [walkP_nil hb]
  cases hh : nd.has with
  | false =>
    rw [hh] at c2
    have HF := Lib.hid (show WalkPost w v (acc ++ toldL []) (.returned v) w from ⟨v, rfl, by simpa [toldL] using hrow, Heap.Touch.refl _ _, fun k hk => .inl hk⟩)
    clear hM hb hrow hh c0 c1 c3
    go_enter Tryz.func190, Tryz.ntmps190
    go_wp2_with fail
    go_ret
    exact HF.out
  | true =>
    rw [hh] at c2
    obtain ⟨S, hS⟩ : ∃ S : ByteArray, (⟨(joinT nd.path).toArray⟩ : ByteArray) = S := ⟨_, rfl⟩
    have hel : entV (acc ++ toldL [(nd.path, nd.n)]) = entV acc ++ [.string S, .int .i64 nd.n] := by rw [entV_append, ← hS]; rfl
    rw [hS]
    have hr1 : Row (w.alloc (.cells #[.string S, .int .i64 nd.n] 124)) 124 2 v acc.length (entV acc) := hrow.kept fun k _ hk => Below.heap_alloc _ _ _ hk
    have hnews : ∀ j u, ([.string S, .int .i64 nd.n] : List Value)[j]? = some u → (w.alloc (.cells #[.string S, .int .i64 nd.n] 124)).cell? ((⟨w.heap.size, 0, none⟩ : Addr).add j) = some u := fun j u hj => by
      rw [Addr.add_lit, cell_of_row _ w.heap.size (0 + j) _ _ _ (heap_alloc_new w _), Nat.zero_add]
      rcases j with _ | _ | j
      · simpa using hj
      · simpa using hj
      · simp at hj
    have hone : ∀ u ∈ ([.string S, .int .i64 nd.n] : List Value), u.oneCell' = true := by
      intro u hu
      simp only [List.mem_cons, List.not_mem_nil, or_false] at hu
      rcases hu with rfl | rfl <;> rfl
    obtain ⟨i0, hi, hz0, hz1, hz2⟩ := info_parts Shf.Ins.info_el
    have HR := Lib.hid hr1; have HN := Lib.hid hnews; have HO := Lib.hid hone; have HEL := Lib.hid hel
    clear hM hb hrow hh c0 c1 hS hel hr1 hnews hone
    go_enter Tryz.func190, Tryz.ntmps190
    go_wp2_with (at_builtin; refine Heap.wpList_append_row _ rfl (.tmp 19) (.tmp 26) 120 rfl 124 i0 _ 2 24 Tryz.underlying120 hi hz0 hz1 hz2 rfl (by decide) _ acc.length _ rfl HR.out ⟨w.heap.size, 0, none⟩ 1 1 [.string S, .int .i64 nd.n] rfl rfl HN.out HO.out (by unfold maxLen; omega) (by omega) ?_)
    intro v2 w3 r3 t3 o3
    have HF := Lib.hid (show WalkPost w v (acc ++ toldL [(nd.path, nd.n)]) (.returned v2) w3 from ⟨v2, rfl, by rw [HEL.out, List.length_append]; exact r3, ((Heap.Touch.refl _ w).alloc _).after t3, fun k hk => by
      rcases o3 k hk with h | h
      · exact .inl h
      · exact .inr (by first | omega | (simp at h; omega))⟩)
    clear r3 t3 o3
    go_wp2
    go_ret
    exact HF.out
end
end Go.Proofs.YtbgchhgdlceceaaGreatDoor.Idx

namespace Go.Proofs.YtbgchhgdlceceaaGreatDoor.Idx
open Go.RowKit Heap
open Subj (Tok ML pieces StrsAt strAt Strs)

/-- What one kid tells. -/
def kidP (H : Hp) (d : Nat) (f : Tok) (fs : List Tok) (k : Nat) : List (List Tok × Int) := if f = [62] then walkP H d k [] ++ walkP H d k (f :: fs) else if f = [42] ∨ f = tokH H k then walkP H d k fs else []

theorem byte_cat (a t : Tok) : (⟨a.toArray⟩ : ByteArray) ++ ⟨#[46]⟩ ++ ⟨t.toArray⟩ = ⟨(a ++ 46 :: t).toArray⟩ := by
  apply ByteArray.ext
  simp [ByteArray.data_append]

section
variable {W : World} {M : Nat → Prop} {x : Nat} {H : Hp} {vf : Nat → Value} {cnt N : Nat}

set_option maxHeartbeats 8000000 in
set_option maxRecDepth 100000 in
theorem walk_any (hG : Good N H x) (hN : N ≤ 100000) : ∀ (d : Nat) {w : World} {b : Nat} {nd : NodeP} {f : List Tok} {fv v : Value} {acc : Ents}, IdxAt W M x H vf cnt w → H b = some nd → 8 ≤ nd.path.length + d → Strs w fv f → f.length ≤ 1048577 → (∀ g, own fv g → g < w.heap.size ∧ ¬ own v g) →
    Row w 124 2 v acc.length (entV acc) → OutOk W M v → acc.length + (walkP H d b f).length ≤ 1000000 →
    Calls Tryz.prog 190 #[ptrV b, fv, .string ⟨(joinT nd.path).toArray⟩, v] w (WalkPost w v (acc ++ toldL (walkP H d b f))) := by
  intro d
  induction d with
  | zero =>
    intro w b nd f fv v acc hM hb hd hfv hfl hfo hrow hok hlen
    cases f with
    | nil =>
      obtain ⟨ao, cap, rfl⟩ := hfv.nil
      exact walk_nil hM hb 0 ao cap v acc hrow (by omega)
    | cons f fs =>
      obtain ⟨gf, of, cf', rfl, hcf, hxf, _⟩ := hfv.cons
      have hk0 : nd.kids = [] := by
        cases hk : nd.kids with
        | nil => rfl
        | cons j ks =>
          obtain ⟨kd, h1, h2⟩ := hG.kid b nd j hb (by rw [hk]; simp)
          have h3 := hG.short j kd h1
          rw [h2] at h3
          simp at h3; omega
      obtain ⟨c0, c1, c2, c3, cf⟩ := node_of (hM.node b nd hb)
      have hblt := hM.lt hb
      obtain ⟨ka, kc, hk⟩ := (hM.row b nd hb).slice
      rw [hk, hk0] at c1
      have hn0 : (((fs.length : Nat) : Int) + 1 == 0) = false := by simp; omega
      have HF := Lib.hid (show WalkPost w v (acc ++ toldL (walkP H 0 b (f :: fs))) (.returned v) w from ⟨v, rfl, by rw [walkP_zero]; simpa [toldL] using hrow, Heap.Touch.refl _ _, fun k hk => .inl hk⟩)
      clear hM hb hd hfv hfo hrow hok hlen hk hk0 c0 c2 c3 hxf
      go_enter Tryz.func190, Tryz.ntmps190
      go_wp2_with fail
      go_loopw [3, 34] (fun s3 i wr => s3 = v ∧ i = .int .i64 0 ∧ w = wr) (fun _ _ _ => 0)
      case atStart => exact ⟨rfl, rfl, rfl⟩
      case round =>
        obtain ⟨rfl, rfl, rfl⟩ := hrel
        go_wp2_with fail
        go_ret
        exact HF.out
  | succ d ih =>
    intro w b nd f fv v acc hM hb hd hfv hfl hfo hrow hok hlen
    cases f with
    | nil =>
      obtain ⟨ao, cap, rfl⟩ := hfv.nil
      rw [walkP_nil hb] at hlen
      have := walk_nil hM hb (d + 1) ao cap v acc hrow (by omega)
      exact this
    | cons f fs =>
      have hfv0 := hfv
      obtain ⟨gf, of, cf', rfl, hcf, hxf, hfs⟩ := hfv.cons
      obtain ⟨c0, c1, c2, c3, cf⟩ := node_of (hM.node b nd hb)
      have hblt := hM.lt hb
      have hfew := hG.few b nd hb
      rw [walkP_succ hb] at hlen ⊢
      change acc.length + (nd.kids.flatMap (kidP H d f fs)).length ≤ 1000000 at hlen
      show Calls _ _ _ _ (WalkPost w v (acc ++ toldL (nd.kids.flatMap (kidP H d f fs))))
      have hn0 : (((fs.length : Nat) : Int) + 1 == 0) = false := by simp; omega
      obtain ⟨n, hn⟩ : ∃ n, nd.kids.length = n := ⟨_, rfl⟩
      obtain ⟨ka, kc, hk⟩ := (hM.row b nd hb).slice
      rw [hn] at hk hfew
      rw [hk] at c1
      have hkids : ∀ (i j : Nat) (wr : World), IdxAt W M x H vf cnt wr → nd.kids[i]? = some j → ∃ kd, H j = some kd ∧ kd.path = nd.path ++ [kd.tok] ∧ (∃ g off, ka = some ⟨g, off, none⟩ ∧ wr.cell? ⟨g, off + i, none⟩ = some (.pointer (some ⟨j, 0, none⟩))) := fun i j wr hMr hij => by
        obtain ⟨kd, h1, h2⟩ := hG.kid b nd j hb (List.mem_of_getElem? hij)
        refine ⟨kd, h1, h2, ?_⟩
        have hrow := hMr.row b nd hb
        have hil : i < nd.kids.length := (List.getElem?_eq_some_iff.1 hij).1
        rcases hrow.2 with ⟨_, h0⟩ | ⟨g, off, cap, cur, ev, _⟩
        · omega
        · rw [ev] at hrow
          rw [hk] at ev
          simp only [Value.slice.injEq] at ev
          exact ⟨g, off, ev.1, by rw [(hrow.cell i (by omega)).1, kidsV_get, hij]; rfl⟩
      have hsub : ∀ i j, nd.kids[i]? = some j → ((nd.kids.take i).flatMap (kidP H d f fs)).length + (kidP H d f fs j).length ≤ (nd.kids.flatMap (kidP H d f fs)).length ∧ nd.kids.take (i + 1) = nd.kids.take i ++ [j] := fun i j hij => by
        have e1 : nd.kids.take (i + 1) = nd.kids.take i ++ [j] := by
          rw [List.take_add_one, hij]; rfl
        refine ⟨?_, e1⟩
        have e2 : nd.kids.flatMap (kidP H d f fs) = (nd.kids.take (i + 1)).flatMap (kidP H d f fs) ++ (nd.kids.drop (i + 1)).flatMap (kidP H d f fs) := by
          rw [← List.flatMap_append, List.take_append_drop]
        rw [e2, e1, List.flatMap_append]
        simp
      have HG := Lib.hid hG; have HM := Lib.hid hM; have HB := Lib.hid hb; have HFV := Lib.hid hfv0; have HFO := Lib.hid hfo; have HRO := Lib.hid hrow; have HOK := Lib.hid hok; have HLEN := Lib.hid hlen; have HNN := Lib.hid hn; have HKI := Lib.hid hkids; have HSU := Lib.hid hsub; have HFS := Lib.hid hfs; have HD := Lib.hid hd; have HIH := Lib.hid (fun (w : World) (b : Nat) (nd : NodeP) (f : List Tok) (fv v : Value) (acc : Ents) => @ih w b nd f fv v acc)
      clear hM hb hd hfv hfo hrow hok hlen hk hn c0 c2 c3 hfv0 hxf hfs ih hkids hsub hG
      simp only [List.length_cons] at hfl
      obtain ⟨S, hS⟩ : ∃ S : ByteArray, (⟨(joinT nd.path).toArray⟩ : ByteArray) = S := ⟨_, rfl⟩
      have hSz : S.size ≤ 200 := by
        rw [← hS]
        have h1 := joinT_len nd.path (fun t ht => (HG.out.toks b nd HB.out t ht).2)
        have h2 := HG.out.short b nd HB.out
        show (joinT nd.path).toArray.size ≤ _
        rw [List.size_toArray]; omega
      rw [hS]
      have HS := Lib.hid hS
      clear hS
      go_enter Tryz.func190, Tryz.ntmps190
      go_wp2_with fail
      go_loopw [3, 34] (fun s3 i wr => ∃ (k : Nat) (vk : Value), k ≤ n ∧ i = .int .i64 k ∧ vk = s3 ∧ Hid (WalkPost w v (acc ++ toldL ((nd.kids.take k).flatMap (kidP H d f fs))) (.returned vk) wr)) (fun _ i _ => n - (intOf i).toNat)
      case atStart => exact ⟨0, v, Nat.zero_le _, rfl, rfl, Lib.hid ⟨v, rfl, by simpa [toldL] using HRO.out, Heap.Touch.refl _ _, fun k hk => .inl hk⟩⟩
      case round =>
        obtain ⟨k, vk, hk, rfl, rfl, HW⟩ := hrel
        by_cases hlt : k < n
        · have hltz : (k : Int) < n := by omega
          obtain ⟨vk', hev, rk, tk, ok'⟩ := HW.out
          simp only [Ending.returned.injEq] at hev
          subst hev
          obtain ⟨j, hj⟩ : ∃ j, nd.kids[k]? = some j := ⟨_, List.getElem?_eq_getElem (by rw [HNN.out]; exact hlt)⟩
          have hMr := HM.out.touched HOK.out tk
          obtain ⟨kd, hkd, hkp, g, off, rfl, hcell⟩ := HKI.out k j wr hMr hj
          obtain ⟨d0, d1, d2, d3, df⟩ := node_of (hMr.node j kd hkd)
          have hjlt := hMr.lt hkd
          obtain ⟨hsl, htk⟩ := HSU.out k j hj
          have hfvr := touch_strsV HFV.out tk (fun g hg => (HFO.out g hg).2)
          obtain ⟨gf2, of2, cf2, ev2, _, hxf, _⟩ := hfvr.cons
          simp only [Value.slice.injEq, Option.some.injEq, Addr.mk.injEq] at ev2
          obtain ⟨⟨rfl, rfl, _⟩, _, rfl⟩ := ev2
          have hfsr := touch_strsV HFS.out tk (fun g hg => (HFO.out g (by
            by_cases hc1 : cf' = 1
            · rw [if_pos hc1] at hg; exact hg
            · rw [if_neg hc1] at hg; exact hg)).2)
          have HRK := Lib.hid rk; have HTK := Lib.hid tk; have HOV := Lib.hid ok'; have HMR := Lib.hid hMr; have HKD := Lib.hid hkd; have HKP := Lib.hid hkp; have HSL := Lib.hid hsl; have HTT := Lib.hid htk; have HFR := Lib.hid hfvr; have HFSR := Lib.hid hfsr
          have HT16 := Lib.hid (HG.out.toks j kd hkd)
          obtain ⟨Q, hQ⟩ : ∃ Q : ByteArray, (⟨kd.tok.toArray⟩ : ByteArray) = Q := ⟨_, rfl⟩
          have hQz : Q.size ≤ 16 := by
            rw [← hQ]
            show kd.tok.toArray.size ≤ _
            rw [List.size_toArray]
            exact (HT16.out kd.tok (by rw [HKP.out]; simp)).2
          have hQl : Q.toList = kd.tok := by rw [← hQ]; exact Subj.bytes_toList _
          rw [hQ] at d0
          have HQ := Lib.hid hQ
          obtain ⟨P, hP⟩ : ∃ P : ByteArray, (⟨(joinT kd.path).toArray⟩ : ByteArray) = P := ⟨_, rfl⟩
          have HP := Lib.hid hP
          clear rk tk ok' hMr hkd hkp hsl htk hfvr hfsr hQ hP hj d1 d2 d3 HW
          obtain ⟨B0, hB0⟩ : ∃ B0, (S.toList == []) = B0 := ⟨_, rfl⟩
          have HB0 := Lib.hid (show (S.toList == []) = B0 from hB0)
          have HSl : Hid (S.toList = joinT nd.path) := Lib.hid (by rw [← HS.out]; exact Subj.bytes_toList _)
          go_upto_if 43 with fail
          clear hB0
          go_cut [11] from 44 to 47 (fun s11 wx => s11 = .string P ∧ wr = wx)
          case first =>
            by_cases hp0 : nd.path = []
            · have hB : B0 = true := by rw [← HB0.out, HSl.out, hp0]; rfl
              have hPQ : P = Q := by rw [← HP.out, ← HQ.out, HKP.out, hp0]; rfl
              subst hB
              subst hPQ
              go_wp2_with fail
              go_meet
              exact ⟨rfl, rfl⟩
            · have hj0 : joinT nd.path ≠ [] := joinT_ne hp0 (fun t ht => (HG.out.toks b nd HB.out t ht).1)
              have hB : B0 = false := by rw [← HB0.out, HSl.out]; simpa using hj0
              have hPQ : P = S ++ ⟨#[46]⟩ ++ Q := by rw [← HP.out, ← HQ.out, ← HS.out, HKP.out, joinT_snoc _ _ hp0, byte_cat]
              subst hB
              subst hPQ
              clear hj0
              go_wp2_with fail
              go_meet
              exact ⟨rfl, rfl⟩
          case rest =>
          obtain ⟨rfl, rfl⟩ := hcut
          obtain ⟨p, hp⟩ : ∃ p : ByteArray, (⟨f.toArray⟩ : ByteArray) = p := ⟨_, rfl⟩
          have hpl : p.toList = f := by rw [← hp]; exact Subj.bytes_toList _
          rw [hp] at hxf
          have HEND := Lib.hid (fun (e : Ending) (w' : World) (hh : WalkPost wr vk ((acc ++ toldL ((nd.kids.take k).flatMap (kidP H d f fs))) ++ toldL (kidP H d f fs j)) e w') => (show WalkPost w v (acc ++ toldL ((nd.kids.take (k + 1)).flatMap (kidP H d f fs))) e w' from by
            refine (WalkPost.after HTK.out HOV.out hh).ext ?_
            rw [HTT.out, List.flatMap_append, toldL_append, List.append_assoc]
            simp))
          have hlen : (acc ++ toldL ((nd.kids.take k).flatMap (kidP H d f fs))).length + (kidP H d f fs j).length ≤ 1000000 := by
            rw [List.length_append, toldL_len]
            have h1 := HSL.out
            have h2 := HLEN.out
            omega
          obtain ⟨A, hA⟩ : ∃ A, acc ++ toldL ((nd.kids.take k).flatMap (kidP H d f fs)) = A := ⟨_, rfl⟩
          rw [hA] at HRK HEND hlen
          have HOK1 := Lib.hid (HOK.out.next HM.out HOV.out)
          have HFO1 := Lib.hid (fun g (hg : own (.slice (some ⟨gf, of, none⟩) (fs.length + 1) cf') g) => (show g < wr.heap.size ∧ ¬ own vk g from ⟨Nat.lt_of_lt_of_le (HFO.out g hg).1 HTK.out.size, fun h => by
            rcases HOV.out g h with h1 | h1
            · exact (HFO.out g hg).2 h1
            · have := (HFO.out g hg).1; omega⟩))
          have HDJ : Hid (8 ≤ kd.path.length + d) := Lib.hid (by have := HD.out; rw [HKP.out, List.length_append]; simp; omega)
          have HLN := Lib.hid hlen
          clear hA hlen hp
          by_cases e62 : f = [62]
          · have hk1 : kidP H d f fs j = walkP H d j [] ++ walkP H d j (f :: fs) := if_pos e62
            rw [hk1] at HEND HLN
            have b1 : (p.toList == [62]) = true := by rw [hpl, e62]; rfl
            have HC1 := Lib.hid (HIH.out wr j kd [] (.slice none 0 0) vk A HMR.out HKD.out HDJ.out ⟨none, 0, rfl, Nat.le_refl _, fun h => absurd rfl h⟩ (by simp) (fun g hg => by simp [own, Value.ownBlock] at hg) HRK.out HOK1.out (by have := HLN.out; rw [List.length_append] at this; omega))
            rw [HP.out] at HC1
            clear hk1 e62 hpl
            go_wp2_with fail
            with_reducible refine HC1.out.mono ?_
            rintro e w2 ⟨v2, rfl, r2, t2, o2⟩
            have HC2 := Lib.hid (HIH.out w2 j kd (f :: fs) (.slice (some ⟨gf, of, none⟩) (fs.length + 1) cf') v2 (A ++ toldL (walkP H d j [])) (HMR.out.touched HOK1.out t2) HKD.out HDJ.out (touch_strsV HFR.out t2 (fun g hg => (HFO1.out g hg).2)) (by simpa using hfl) (fun g hg => ⟨Nat.lt_of_lt_of_le (HFO1.out g hg).1 t2.size, fun h => by
              rcases o2 g h with h1 | h1
              · exact (HFO1.out g hg).2 h1
              · have := (HFO1.out g hg).1; omega⟩) r2 (HOK1.out.next HMR.out o2) (by have := HLN.out; rw [List.length_append] at this; rw [List.length_append, toldL_len]; omega))
            rw [HP.out] at HC2
            have HT2 := Lib.hid t2; have HO2 := Lib.hid o2
            clear r2 t2 o2 HC1
            go_wp2_with fail
            with_reducible refine HC2.out.mono ?_
            rintro e w3 ⟨v3, rfl, r3, t3, o3⟩
            have HNN2 := Lib.hid (HEND.out _ w3 (WalkPost.ext (WalkPost.after HT2.out HO2.out ⟨v3, rfl, r3, t3, o3⟩) (by rw [toldL_append, List.append_assoc])))
            clear r3 t3 o3 HC2 HEND
            go_wp2_with fail
            exact ⟨⟨k + 1, v3, by omega, by go_num, rfl, HNN2⟩, by simp [intOf]; omega⟩
          · have b1 : (p.toList == [62]) = false := by rw [hpl]; simpa using e62
            by_cases ht : f = [42] ∨ f = tokH H j
            · have hk1 : kidP H d f fs j = walkP H d j fs := by unfold kidP; rw [if_neg e62, if_pos ht]
              rw [hk1] at HEND HLN
              have HC1 := Lib.hid (HIH.out wr j kd fs _ vk A HMR.out HKD.out HDJ.out HFSR.out (by omega) (fun g hg => HFO1.out g (by
                by_cases hc1 : cf' = 1
                · rw [if_pos hc1] at hg; exact hg
                · rw [if_neg hc1] at hg; exact hg)) HRK.out HOK1.out HLN.out)
              rw [HP.out] at HC1
              have hq1 : (1 : Int) ≤ ((fs.length : Nat) : Int) + 1 := by omega
              have hq2 : ((fs.length : Nat) : Int) + 1 ≤ (cf' : Int) := by omega
              have hq3 : 1 ≤ fs.length + 1 := by omega
              rw [tokH_some HKD.out] at ht
              have hB2 : (p.toList == [42]) = true ∨ ((p.toList == [42]) = false ∧ (p.toList == Q.toList) = true) := by
                rw [hpl, hQl]
                by_cases e42 : f = [42]
                · left; rw [e42]; rfl
                · right
                  exact ⟨by simpa using e42, by simpa using ht.resolve_left e42⟩
              clear hk1 e62 ht hpl hQl
              rcases hB2 with b2 | ⟨b2, b3⟩
              · by_cases hc1 : cf' = 1
                · subst hc1
                  have hq0 : fs.length = 0 := by omega
                  rw [if_pos rfl, show 1 - 1 = 0 from rfl, hq0] at HC1
                  clear hq0
                  go_wp2_with fail
                  with_reducible refine HC1.out.mono ?_
                  rintro e w3 ⟨v3, rfl, r3, t3, o3⟩
                  have HNN2 := Lib.hid (HEND.out _ w3 ⟨v3, rfl, r3, t3, o3⟩)
                  clear r3 t3 o3 HC1 HEND
                  go_wp2_with fail
                  exact ⟨⟨k + 1, v3, by omega, by go_num, rfl, HNN2⟩, by simp [intOf]; omega⟩
                · rw [if_neg hc1] at HC1
                  go_wp2_with fail
                  with_reducible refine HC1.out.mono ?_
                  rintro e w3 ⟨v3, rfl, r3, t3, o3⟩
                  have HNN2 := Lib.hid (HEND.out _ w3 ⟨v3, rfl, r3, t3, o3⟩)
                  clear r3 t3 o3 HC1 HEND
                  go_wp2_with fail
                  exact ⟨⟨k + 1, v3, by omega, by go_num, rfl, HNN2⟩, by simp [intOf]; omega⟩
              · by_cases hc1 : cf' = 1
                · subst hc1
                  have hq0 : fs.length = 0 := by omega
                  rw [if_pos rfl, show 1 - 1 = 0 from rfl, hq0] at HC1
                  clear hq0
                  go_wp2_with fail
                  with_reducible refine HC1.out.mono ?_
                  rintro e w3 ⟨v3, rfl, r3, t3, o3⟩
                  have HNN2 := Lib.hid (HEND.out _ w3 ⟨v3, rfl, r3, t3, o3⟩)
                  clear r3 t3 o3 HC1 HEND
                  go_wp2_with fail
                  exact ⟨⟨k + 1, v3, by omega, by go_num, rfl, HNN2⟩, by simp [intOf]; omega⟩
                · rw [if_neg hc1] at HC1
                  go_wp2_with fail
                  with_reducible refine HC1.out.mono ?_
                  rintro e w3 ⟨v3, rfl, r3, t3, o3⟩
                  have HNN2 := Lib.hid (HEND.out _ w3 ⟨v3, rfl, r3, t3, o3⟩)
                  clear r3 t3 o3 HC1 HEND
                  go_wp2_with fail
                  exact ⟨⟨k + 1, v3, by omega, by go_num, rfl, HNN2⟩, by simp [intOf]; omega⟩
            · have hk1 : kidP H d f fs j = [] := by unfold kidP; rw [if_neg e62, if_neg ht]
              rw [hk1] at HEND
              rw [tokH_some HKD.out] at ht
              have b2 : (p.toList == [42]) = false := by rw [hpl]; simpa using fun e => ht (.inl e)
              have b3 : (p.toList == Q.toList) = false := by rw [hpl, hQl]; simpa using fun e => ht (.inr e)
              have HNN2 := Lib.hid (HEND.out (.returned vk) wr ⟨vk, rfl, by rw [show toldL [] = [] from rfl, List.append_nil]; exact HRK.out, Heap.Touch.refl _ _, fun k hk => .inl hk⟩)
              clear hk1 e62 ht hpl hQl HEND
              go_wp2_with fail
              exact ⟨⟨k + 1, vk, by omega, by go_num, rfl, HNN2⟩, by simp [intOf]; omega⟩
        · obtain rfl : k = n := by omega
          have HF := HW.out
          rw [List.take_of_length_le (by rw [HNN.out]; exact Nat.le_refl _)] at HF
          have HFF := Lib.hid HF
          clear HF HW
          go_wp2_with fail
          go_ret
          exact HFF.out
end
end Go.Proofs.YtbgchhgdlceceaaGreatDoor.Idx

namespace Go.Proofs.YtbgchhgdlceceaaGreatDoor.Idx
open Go.RowKit Heap
open Subj (Tok ML pieces StrsAt strAt Strs)

/-- What 'Find' answers. -/
def FindPost (er : Nat) (L : Ents) (w : World) (e : Ending) (w' : World) : Prop :=
  Below w.heap.size w w' ∧ ((er ≠ 0 ∧ e = .returned (.tuple #[.slice none 0 0, .int .i64 er])) ∨
    (er = 0 ∧ ∃ v, e = .returned (.tuple #[v, .int .i64 0]) ∧ Row w' 124 2 v L.length (entV L) ∧ ∀ k, own v k → w.heap.size ≤ k))

section
variable {W w : World} {M : Nat → Prop} {x : Nat} {H : Hp} {vf : Nat → Value} {cnt N : Nat}

set_option maxHeartbeats 4000000 in
set_option maxRecDepth 100000 in
theorem findAll_any (hG : Good N H x) (hM : IdxAt W M x H vf cnt w) (hN : N ≤ 100000) (hm : ML W) (s : ByteArray) (hs : s.size ≤ 1048576) (hl : (walkP H 8 x (pieces s.data.toList)).length ≤ 1000000) :
    Calls Tryz.prog 125 #[ptrV x, .string s] w (FindPost (Subj.err true s.data.toList) (toldL (walkP H 8 x (pieces s.data.toList))) w) := by
  have HFI := Lib.hid (Subj.filter_any s w hs (hm.below hM.below))
  have HSP := Lib.hid (fun w1 hm1 => split_dot s w1 hs hm1)
  have hpl := Subj.pieces_size s hs
  have hne := Subj.pieces_ne s.data.toList
  generalize Subj.err true s.data.toList = er at *
  generalize pieces s.data.toList = l at *
  obtain ⟨rd, hrd, hrp⟩ := hG.root
  have hx := hM.lt hrd
  have HG := Lib.hid hG; have HM := Lib.hid hM; have HRD := Lib.hid hrd; have HML := Lib.hid hm; have HRP := Lib.hid hrp; have HLN := Lib.hid hl
  clear hG hM hm hs hrd hrp hl
  go_enter Tryz.func125, Tryz.ntmps125
  go_wp2_with fail
  with_reducible refine HFI.out.mono ?_
  rintro e w1 ⟨rfl, hb1⟩
  have HB1 := Lib.hid hb1
  clear hb1 HFI
  by_cases he : er = 0
  · subst he
    have HM1 := Lib.hid (HM.out.next HB1.out.drew)
    have HSP2 := Lib.hid (HSP.out w1.drew (HML.out.below HM1.out.below))
    obtain ⟨g, hgg⟩ : ∃ g, w1.drew.heap.size = g := ⟨_, rfl⟩
    have hgw : w.heap.size ≤ g := by rw [← hgg]; exact HB1.out.drew.size
    have HWK := Lib.hid (fun (w3 : World) (hst : StrsAt w3 g 0 l) (hb3 : Below w1.drew.heap.size w1.drew w3) => walk_any HG.out hN 8 (v := .slice none 0 0) (fv := .slice (some ⟨g, 0, none⟩) l.length l.length) (acc := []) (HM1.out.next hb3) HRD.out (by omega) ⟨_, l.length, rfl, Nat.le_refl _, fun _ => ⟨g, 0, rfl, hst⟩⟩ hpl (fun j hj => ⟨(by
      simp only [own, Value.ownBlock, Option.some.injEq] at hj
      subst hj
      exact strsAt_lt hst hne), fun h => by simp [own, Value.ownBlock] at h⟩) (Row.nil _ _ _) (fun k hk => by simp [own, Value.ownBlock] at hk) (by simpa using HLN.out))
    rw [hgg] at HSP2 HWK
    have HJ : (⟨(joinT ([] : List Tok)).toArray⟩ : ByteArray) = ⟨#[]⟩ := rfl
    simp only [HRP.out, HJ, List.nil_append] at HWK
    clear HJ
    have HBB := Lib.hid (show Below w.heap.size w w1.drew from HB1.out.drew)
    clear hgg HSP
    go_wp2_with fail
    go_region_with (first
      | (go_at_call 151; (with_reducible refine HSP2.out.mono ?_); rintro e w3 ⟨rfl, hst, hb3⟩; have HST := Lib.hid hst; have HB3 := Lib.hid hb3; clear hst hb3)
      | (go_at_call 190; (with_reducible refine (HWK.out _ HST.out HB3.out).mono ?_); rintro e w4 ⟨v4, rfl, r4, t4, o4⟩))
    have HF := Lib.hid (show FindPost 0 (toldL (walkP H 8 x l)) w (.returned (.tuple #[v4, .int .i64 0])) w4 from by
      have h3 : Below w.heap.size w w4 := (HBB.out.trans (HB3.out.mono hgw)).trans ((t4.below (Nat.le_refl _) (fun k hk => by simp [own, Value.ownBlock] at hk)).mono (HBB.out.trans (HB3.out.mono hgw)).size)
      refine ⟨h3, .inr ⟨rfl, v4, rfl, r4, fun k hk => ?_⟩⟩
      rcases o4 k hk with h | h
      · simp [own, Value.ownBlock] at h
      · exact Nat.le_trans (HBB.out.trans (HB3.out.mono hgw)).size h)
    clear r4 t4 o4
    go_wp2_with fail
    go_ret2
    exact HF.out
  · have he0 : ((er : Int) != 0) = true := by simpa using he
    have HF := Lib.hid (show FindPost er (toldL (walkP H 8 x l)) w (.returned (.tuple #[.slice none 0 0, .int .i64 er])) w1 from ⟨HB1.out, .inl ⟨he, rfl⟩⟩)
    clear he
    go_wp2_with fail
    go_ret2
    exact HF.out
end
end Go.Proofs.YtbgchhgdlceceaaGreatDoor.Idx
