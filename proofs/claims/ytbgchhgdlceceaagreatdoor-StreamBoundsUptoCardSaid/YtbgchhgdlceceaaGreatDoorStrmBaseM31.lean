/- Parts of the proof, joined: Does a stream take a subject: (*Stream).takes, walked, with slices.ContainsFunc and its closure.; Is a post right, is its id known: (*Stream).check, known, walked. -/
import Derived.Test.YtbgchhgdlceceaaGreatDoorStrmBaseM30
namespace Go.Proofs.YtbgchhgdlceceaaGreatDoor.Strm
open Go.RowKit Heap
open Subj (Tok ML err takes pieces pieces_ne pieces_size StrsAt Strs strAt strsV)
open Vlt (low_to)
open Idx (split_dot)

/-- The closure's text, in pieces. -/
def CapT (T : Nat) (L : List Tok) (w : World) : Prop := ∃ g, w.cell? ⟨T, 0, none⟩ = some (.slice (some ⟨g, 0, none⟩) L.length L.length) ∧ StrsAt w g 0 L

theorem CapT.below {T : Nat} {L : List Tok} {w w' : World} (h : CapT T L w) (hb : Below w.heap.size w w') : CapT T L w' := by
  obtain ⟨g, h1, h2⟩ := h
  exact ⟨g, (hb.cell (World.block_lt_of_cell? w _ h1)).trans h1, h2.below hb⟩

set_option maxRecDepth 100000 in
theorem takesF_any (T : Nat) (L : List Tok) (hL : L.length ≤ 1048577) (f : ByteArray) (hf : f.size ≤ 1048576) (W w : World) (hW : Below W.heap.size W w) (hm : ML W) (hC : CapT T L w) :
    Calls Tryz.prog 219 #[.string f, .pointer (some ⟨T, 0, none⟩)] w fun e w' => e = .returned (.bool (takes (pieces f.data.toList) L)) ∧ Below w.heap.size w w' := by
  obtain ⟨g, hc, hst⟩ := hC
  have hps := pieces_size f hf
  have hsp := fun w' (hb : Below w.heap.size w w') => split_dot f w' hf ((hm.below hW).below hb)
  obtain ⟨P, hP⟩ : ∃ P, pieces f.data.toList = P := ⟨_, rfl⟩
  rw [hP] at hps hsp ⊢
  have htk := fun (g1 : Nat) (w' : World) (h1 : StrsAt w' g1 0 P) (h2 : StrsAt w' g 0 L) => Subj.takes_any g1 g P.length L.length P L w' h1 h2 (by unfold maxLen; omega) (by unfold maxLen; omega)
  obtain ⟨b, hb⟩ : ∃ b, takes P L = b := ⟨_, rfl⟩
  rw [hb] at htk ⊢
  obtain ⟨n, hn⟩ : ∃ n, L.length = n := ⟨_, rfl⟩
  rw [hn] at hc htk
  obtain ⟨m, hmm⟩ : ∃ m, P.length = m := ⟨_, rfl⟩
  rw [hmm] at hsp htk
  have HSP := Lib.hid hsp; have HTK := Lib.hid htk
  have HST := Lib.hid (show ∀ w', Below w.heap.size w w' → StrsAt w' g 0 L from fun w' hb => hst.below hb)
  have HSS := Lib.hid (show ∀ w', Below w.heap.size w w' → w'.cell? ⟨T, 0, none⟩ = some (.slice (some ⟨g, 0, none⟩) n n) from fun w' hb => (hb.cell (World.block_lt_of_cell? w _ hc)).trans hc)
  have hbd : Below w.heap.size w w.drew := (Below.refl _ _).drew
  clear hc hst hps hsp hP htk hb hn hmm hL hf hW hm
  go_enter Tryz.func219, Tryz.ntmps219
  go_upto_region 1 with fail
  go_region_held3 (fun w' => w'.cell? ⟨T, 0, none⟩ = some (.slice (some ⟨g, 0, none⟩) n n)) (first | (with_reducible exact HSS.out _ (Below.refl _ _)) | (with_reducible exact HSS.out _ hbd) | (with_reducible exact HSS.out _ (by assumption)) | go_keep)
    (first
      | (go_at_call 151; ((refine (HSP.out _ (by first | assumption | exact Below.refl _ _)).mono ?_); rintro e w2 ⟨rfl, hs2, hb2⟩; have hb2' := low_to (w0 := w) (by first | assumption | exact Below.refl _ _) hb2; clear hb2))
      | (go_at_call 152; ((refine (HTK.out _ _ (by assumption) (HST.out _ (by assumption))).mono ?_); rintro e w' ⟨rfl, rfl⟩)))
  go_wp2_with fail
  go_ret
  exact ⟨rfl, by assumption⟩

theorem fn_takesF : ∀ args w, (callFunc 219 args).run Tryz.prog w = .ok (.enter 219 args) w := enters_of Tryz.func219 (by kernel_rfl) rfl

theorem takesP_none {fs : List Tok} {s : Tok} (h : ∀ k, k < fs.length → takes (pieces (fs.getD k [])) (pieces s) = false) : takesP fs s = false := by
  unfold takesP
  rw [List.any_eq_false]
  intro f hf
  obtain ⟨k, hk, rfl⟩ := List.getElem_of_mem hf
  have := h k hk
  simp only [List.getD, List.getElem?_eq_getElem hk, Option.getD_some] at this
  rw [this]; simp
theorem takesP_at {fs : List Tok} {s : Tok} {k : Nat} (hk : k < fs.length) (h : takes (pieces (fs.getD k [])) (pieces s) = true) : takesP fs s = true := by
  unfold takesP
  rw [List.any_eq_true]
  exact ⟨fs.getD k [], by simp [List.getD, hk], h⟩

set_option maxHeartbeats 2000000 in
set_option maxRecDepth 100000 in
theorem index_takes (fs : List Tok) (v : Value) (T : Nat) (s : Tok) (hL : (pieces s).length ≤ 1048577) (W w : World) (hW : Below W.heap.size W w) (hm : ML W) (hS : Strs w v fs) (hl : fs.length ≤ 1048576) (hz : ∀ f ∈ fs, f.length ≤ 1048576) (hC : CapT T (pieces s) w) :
    Calls Tryz.prog 249 #[v, .func (.func 219) #[] #[.pointer (some ⟨T, 0, none⟩)]] w
      fun e w' => ∃ n : Int, e = .returned (.int .i64 n) ∧ (decide (0 ≤ n) = takesP fs s) ∧ Below w.heap.size w w' := by
  have eg := fn_takesF
  have HC := Lib.hid (show ∀ k, k < fs.length → ∀ w', Below w.heap.size w w' → Calls Tryz.prog 219 #[.string (strAt fs k), .pointer (some ⟨T, 0, none⟩)] w' fun e w'' => e = .returned (.bool (takes (pieces (fs.getD k [])) (pieces s))) ∧ Below w'.heap.size w' w'' from fun k hk w' hb => by
    have h1 := takesF_any T (pieces s) hL (strAt fs k) (by
      unfold strAt
      show (fs.getD k []).toArray.size ≤ _
      have := hz (fs.getD k []) (by simp [List.getD, hk])
      simpa using this) W w' (hW.trans (hb.mono hW.size)) hm (hC.below hb)
    have e1 : (strAt fs k).data.toList = fs.getD k [] := by unfold strAt; simp
    rw [e1] at h1
    exact h1)
  have HSB := Lib.hid (show ∀ w', Below w.heap.size w w' → Strs w' v fs from fun w' hb => hS.below hb)
  obtain ⟨ao, cap, rfl, hc, hat⟩ := hS
  obtain ⟨n, hn⟩ : ∃ n, fs.length = n := ⟨_, rfl⟩
  rw [hn] at hc hl HC HSB ⊢
  have HAT := Lib.hid (show ∀ w', Below w.heap.size w w' → ∀ k, k < n → ∃ g off, ao = some ⟨g, off, none⟩ ∧ w'.cell? ⟨g, off + k, none⟩ = some (.string (strAt fs k)) from fun w' hb k hk => by
    obtain ⟨ao', cap', e, _, h2⟩ := HSB.out w' hb
    rw [hn] at e
    simp only [Value.slice.injEq, true_and] at e
    obtain ⟨rfl, rfl⟩ := e
    obtain ⟨g, off, h3, h4⟩ := h2 (by intro e; rw [e] at hn; simp at hn; omega)
    exact ⟨g, off, h3, h4 k (by omega)⟩)
  have HN := Lib.hid hn
  clear hat hn hC hL hz hW hm
  go_enter Tryz.func249, Tryz.ntmps249
  go_wp2_with fail
  go_loopw [5, 8] (fun _ i wr => ∃ k : Nat, k ≤ n ∧ i = .int .i64 k ∧ Hid (Below w.heap.size w wr) ∧ Hid (∀ j, j < k → takes (pieces (fs.getD j [])) (pieces s) = false)) (fun _ i _ => n - (intOf i).toNat)
  case atStart => exact ⟨0, Nat.zero_le _, rfl, Lib.hid (Below.refl _ _), Lib.hid fun j hj => by omega⟩
  case round =>
    obtain ⟨k, hk, rfl, BW, A⟩ := hrel
    by_cases hlt : k < n
    · have hltz : (k : Int) < n := by omega
      obtain ⟨g, off, rfl, c0⟩ := HAT.out wr BW.out k hlt
      have hcall := HC.out k hlt wr BW.out
      cases hq : takes (pieces (fs.getD k [])) (pieces s) with
      | true =>
        rw [hq] at hcall
        have HH := Lib.hid (takesP_at (by rw [HN.out]; exact hlt) hq)
        have HCALL := Lib.hid hcall
        clear hq hcall
        generalize strAt fs k = Tk at *
        go_wp2_with (go_at_fn 219; refine HCALL.out.mono ?_; rintro e w' ⟨rfl, hb'⟩)
        go_ret
        exact ⟨_, rfl, by rw [HH.out]; simp, BW.out.trans (hb'.mono BW.out.size)⟩
      | false =>
        rw [hq] at hcall
        have HQ := Lib.hid hq
        have HCALL := Lib.hid hcall
        clear hq hcall
        generalize strAt fs k = Tk at *
        go_wp2_with (go_at_fn 219; refine HCALL.out.mono ?_; rintro e w' ⟨rfl, hb'⟩)
        refine ⟨⟨k + 1, by omega, by go_num, Lib.hid (BW.out.trans (hb'.mono BW.out.size)), Lib.hid fun j hj => ?_⟩, by simp [intOf]; omega⟩
        by_cases e : j = k
        · subst e; exact HQ.out
        · exact A.out j (by omega)
    · have hltz : ¬ (k : Int) < n := by omega
      obtain rfl : k = n := by omega
      have HH := Lib.hid (takesP_none (fs := fs) (s := s) fun j hj => A.out j (by rw [← HN.out]; exact hj))
      have HB := Lib.hid BW.out
      clear A BW
      go_wp2
      go_ret
      exact ⟨_, rfl, by rw [HH.out]; simp, HB.out⟩

set_option maxRecDepth 100000 in
theorem contains_takes (fs : List Tok) (v : Value) (T : Nat) (s : Tok) (hL : (pieces s).length ≤ 1048577) (W w : World) (hW : Below W.heap.size W w) (hm : ML W) (hS : Strs w v fs) (hl : fs.length ≤ 1048576) (hz : ∀ f ∈ fs, f.length ≤ 1048576) (hC : CapT T (pieces s) w) :
    Calls Tryz.prog 218 #[v, .func (.func 219) #[] #[.pointer (some ⟨T, 0, none⟩)]] w
      fun e w' => e = .returned (.bool (takesP fs s)) ∧ Below w.heap.size w w' := by
  have H := Lib.hid (index_takes fs v T s hL W w hW hm hS hl hz hC)
  clear hS hC hW hm
  generalize takesP fs s = b at *
  go_enter Tryz.func218, Tryz.ntmps218
  go_wp2_with fail
  refine H.out.mono ?_
  rintro e w' ⟨n, rfl, hn, hb⟩
  go_wp2
  go_ret
  first | exact ⟨rfl, hb⟩ | exact ⟨ret_bool hn, hb⟩

section
variable {W w : World} {F : Nat → Prop} {K S c : Nat} {room size : Int} {name : ByteArray} {p : Pl} {s : Sm}

set_option maxRecDepth 100000 in
theorem takes_sm (h : SmAt W F K S c room size name p s w) (hm : ML W) (hl : p.fs.length ≤ 1048576) (hz : ∀ f ∈ p.fs, f.length ≤ 1048576) (t : ByteArray) (ht : t.size ≤ 1048576) :
    Calls Tryz.prog 185 #[.pointer (some ⟨K, 0, none⟩), .string t] w fun e w' => e = .returned (.bool (takesP p.fs t.data.toList)) ∧ Below w.heap.size w w' := by
  have hsp := split_dot t w ht (hm.below h.below)
  have hps := pieces_size t ht
  obtain ⟨FV, V, D, G, vf, vi, hP, _⟩ := h.ex
  have HP := Lib.hid hP; have HSP := Lib.hid hsp; have HM := Lib.hid hm; have HZ := Lib.hid hz; have HL := Lib.hid (And.intro hl hps); have HW := Lib.hid h.below
  obtain ⟨gs, hgs⟩ : ∃ gs, w.heap.size = gs := ⟨_, rfl⟩
  have HGS := Lib.hid hgs
  obtain ⟨b, hb⟩ : ∃ b, takesP p.fs t.data.toList = b := ⟨_, rfl⟩
  have HB := Lib.hid hb
  rw [hb]
  rw [hgs] at HSP
  obtain ⟨n, hn⟩ : ∃ n, (pieces t.data.toList).length = n := ⟨_, rfl⟩
  have HN := Lib.hid hn
  rw [hn] at HSP
  clear h hsp hps hP hm hl hz ht hgs hb hn
  go_enter Tryz.func185, Tryz.ntmps185
  go_wp2_with fail
  refine HSP.out.mono ?_
  rintro e w1 ⟨rfl, hs1, hb1⟩
  rw [← HGS.out] at hb1
  obtain ⟨w2, hw2⟩ : ∃ w2, w2 = w1.alloc (.cells #[.slice (some ⟨gs, 0, none⟩) n n] 60) := ⟨_, rfl⟩
  have hb2 : Below w1.heap.size w1 w2 := by rw [hw2]; exact (Below.refl _ _).alloc (Nat.le_refl _) _
  have he2 : w2.heap[w1.heap.size]? = some (.cells #[.slice (some ⟨gs, 0, none⟩) n n] 60 (0, 0)) := by rw [hw2]; exact heap_alloc_new w1 _
  obtain ⟨T, hT⟩ : ∃ T, w1.heap.size = T := ⟨_, rfl⟩
  have HT := Lib.hid hT
  rw [hT] at he2
  have hbw := hb1.trans (hb2.mono hb1.size)
  have HBW := Lib.hid hbw
  have HCA := Lib.hid (show CapT T (pieces t.data.toList) w2 from ⟨gs, by rw [HN.out, cell_of_row w2 T 0 _ _ _ he2]; rfl, hs1.below hb2⟩)
  have hP2 := HP.out.low hbw
  obtain ⟨c1, _⟩ := hP2.cells
  have hKl := hP2.ltK
  have HCO := Lib.hid (contains_takes p.fs vf T t.data.toList HL.out.2 W w2 (HW.out.trans (hbw.mono HW.out.size)) HM.out (Own.Row.toStrs hP2.fils) HL.out.1 HZ.out HCA.out)
  rw [HB.out] at HCO
  obtain ⟨vfa, vfn, rfl⟩ := hP2.fils.slice
  clear hb1 hs1 hb2 he2 hbw hP2 hT HSP
  go_upto_region 2 with fail
  rw [← hw2, HT.out]
  clear hw2
  go_wp2_with fail
  refine HCO.out.mono ?_
  rintro e w3 ⟨rfl, hb3⟩
  have HF := Lib.hid (HBW.out.trans (hb3.mono HBW.out.size))
  clear hb3 HCO
  go_wp2_with fail
  go_ret
  exact ⟨rfl, HF.out⟩
end
end Go.Proofs.YtbgchhgdlceceaaGreatDoor.Strm

namespace Go.Proofs.YtbgchhgdlceceaaGreatDoor.Strm
open Go.RowKit Heap
open Subj (Tok ML err takes pieces subject_any)
open Vlt (low_to)
open Sto (sixC)
open Rec (far)

section
variable {W w : World} {F : Nat → Prop} {K S c : Nat} {room size : Int} {name : ByteArray} {p : Pl} {s : Sm} {x : Po}

/-- A plan whose filters are not too long. -/
structure FitsF (p : Pl) : Prop where
  l : p.fs.length ≤ 1048576
  z : ∀ f ∈ p.fs, f.length ≤ 1048576

set_option maxHeartbeats 4000000 in
set_option maxRecDepth 100000 in
theorem check_sm (h : SmAt W F K S c room size name p s w) (hm : ML W) (hF : FitsF p) (hx : FitsP x) (now : Int) :
    Calls Tryz.prog 121 #[.pointer (some ⟨K, 0, none⟩), .int .i64 now, postV x] w fun e w' => e = .returned (.int .i64 (checkP p now x : Nat)) ∧ Below w.heap.size w w' := by
  obtain ⟨sb, ib, hb, db, hp⟩ := partsP x
  have htk := fun w' (hb : Below w.heap.size w w') => takes_sm (h.low hb) hm hF.l hF.z sb (by rw [hp.s3]; exact hx.s)
  have hsu := fun w' (hb : Below w.heap.size w w') => subject_any sb w' (by rw [hp.s3]; exact hx.s) ((hm.below h.below).below hb)
  rw [hp.s2] at htk hsu
  rw [hp.v]
  obtain ⟨V, vf, vi, hcl⟩ := h.cells
  obtain ⟨w1, hw1⟩ : ∃ w1, w1 = w.alloc (.cells #[.string sb, .string ib, .string hb, .string db, .int .i64 x.exp, .int .i64 x.roll] 112) := ⟨_, rfl⟩
  have hb1 : Below w.heap.size w w1 := by rw [hw1]; exact (Below.refl _ _).alloc (Nat.le_refl _) _
  have he1 : w1.heap[w.heap.size]? = some (.cells #[.string sb, .string ib, .string hb, .string db, .int .i64 x.exp, .int .i64 x.roll] 112 (0, 0)) := by rw [hw1]; exact heap_alloc_new w _
  obtain ⟨bx, hbx⟩ : ∃ bx, w.heap.size = bx := ⟨_, rfl⟩
  rw [hbx] at he1
  obtain ⟨er, her⟩ : ∃ er, err false x.subj = er := ⟨_, rfl⟩
  obtain ⟨tb, htb⟩ : ∃ tb, takesP p.fs x.subj = tb := ⟨_, rfl⟩
  obtain ⟨ck, hck⟩ : ∃ ck, checkP p now x = ck := ⟨_, rfl⟩
  have hck0 : ck = if now < 0 ∨ 1099511627776 < now ∨ x.exp < -1 ∨ x.roll < 0 ∨ 2 < x.roll then 1 else if er ≠ 0 then er else if tb = false then 10 else if 256 < hb.size + db.size ∨ (0 < p.size ∧ p.size < ((hb.size + db.size : Nat) : Int)) ∨ 16 < ib.size then 2 else 0 := by
    rw [← hck, ← her, ← htb, hp.h3, hp.d3, hp.i3]; rfl
  rw [her] at hsu
  rw [htb] at htk
  rw [hck]
  have hsz : hb.size ≤ 1048576 ∧ db.size ≤ 1048576 ∧ ib.size ≤ 1048576 := by rw [hp.h3, hp.d3, hp.i3]; exact ⟨hx.h, hx.d, hx.i⟩
  obtain ⟨ps, hps⟩ : ∃ ps, p.size = ps := ⟨_, rfl⟩
  rw [hps] at hcl hck0
  have hwz : IntKind.i64.wrap ((hb.size : Int) + db.size) = (hb.size : Int) + db.size := IntWalk.i64_in _ (by omega)
  have HSS := Lib.hid (show ∀ w', Below w1.heap.size w1 w' → w'.cell? ⟨K, 6, none⟩ = some (.int .i64 ps) ∧ w'.cell? ⟨bx, 0, none⟩ = some (.string sb) ∧ w'.cell? ⟨bx, 1, none⟩ = some (.string ib) ∧ w'.cell? ⟨bx, 2, none⟩ = some (.string hb) ∧ w'.cell? ⟨bx, 3, none⟩ = some (.string db) ∧ w'.cell? ⟨bx, 4, none⟩ = some (.int .i64 x.exp) ∧ w'.cell? ⟨bx, 5, none⟩ = some (.int .i64 x.roll) from fun w' hb => by
    obtain ⟨_, _, _, _, _, c6, _⟩ := hcl w' (hb1.trans (hb.mono hb1.size))
    obtain ⟨q0, q1, q2, q3, q4, q5⟩ := sixC ((hb.block bx (heap_lt he1)).trans he1)
    exact ⟨c6, q0, q1, q2, q3, q4, q5⟩)
  have HTK := Lib.hid htk; have HSU := Lib.hid hsu; have HB1 := Lib.hid hb1; have HBX := Lib.hid hbx; have HCK := Lib.hid hck0
  obtain ⟨xe, hxe⟩ : ∃ xe, x.exp = xe := ⟨_, rfl⟩
  obtain ⟨xr, hxr⟩ : ∃ xr, x.roll = xr := ⟨_, rfl⟩
  rw [hxe, hxr] at HSS HCK hw1
  obtain ⟨c6, q0, q1, q2, q3, q4, q5⟩ := HSS.out w1 (Below.refl _ _)
  rw [hxe, hxr]
  clear h hb1 he1 hbx hm hF hx hp hcl hck hck0 her htb hsu htk hps hxe hxr
  by_cases hA : now < 0 ∨ 1099511627776 < now ∨ xe < -1 ∨ xr < 0 ∨ 2 < xr
  · have HC1 := Lib.hid (show ck = 1 by rw [HCK.out, if_pos hA])
    have HAA := Lib.hid hA
    clear hA
    rw [HC1.out]
    go_enter Tryz.func121, Tryz.ntmps121
    go_upto_region 1 with fail
    rw [← hw1, HBX.out]
    clear hw1
    by_cases a1 : now < 0
    · go_wp2_with fail
      go_ret
      exact ⟨rfl, HB1.out⟩
    · by_cases a2 : 1099511627776 < now
      · go_wp2_with fail
        go_ret
        exact ⟨rfl, HB1.out⟩
      · by_cases a3 : xe < -1
        · go_wp2_with fail
          go_ret
          exact ⟨rfl, HB1.out⟩
        · by_cases a4 : xr < 0
          · go_wp2_with fail
            go_ret
            exact ⟨rfl, HB1.out⟩
          · have a5 : 2 < xr := by have := HAA.out; omega
            go_wp2_with fail
            go_ret
            exact ⟨rfl, HB1.out⟩
  · have a1 : ¬ now < 0 := by omega
    have a2 : ¬ 1099511627776 < now := by omega
    have a3 : ¬ xe < -1 := by omega
    have a4 : ¬ xr < 0 := by omega
    have a5 : ¬ 2 < xr := by omega
    have HC1 := Lib.hid (show ck = if er ≠ 0 then er else if tb = false then 10 else if 256 < hb.size + db.size ∨ (0 < ps ∧ ps < ((hb.size + db.size : Nat) : Int)) ∨ 16 < ib.size then 2 else 0 by rw [HCK.out, if_neg hA])
    have HSU1 := Lib.hid (HSU.out w1 HB1.out)
    clear hA HCK HSU
    go_enter Tryz.func121, Tryz.ntmps121
    go_upto_region 1 with fail
    rw [← hw1, HBX.out]
    clear hw1
    go_wp2_with fail
    refine HSU1.out.mono ?_
    rintro e w2 ⟨rfl, hb2⟩
    have HB2 := Lib.hid hb2
    have HBW2 := Lib.hid (HB1.out.trans (hb2.mono HB1.out.size))
    clear hb2 c6 q0 q1 q2 q3 q4 q5 HSU1
    obtain ⟨c6, q0, q1, q2, q3, q4, q5⟩ := HSS.out w2 HB2.out
    by_cases h0 : er = 0
    · subst h0
      have HTK2 := Lib.hid (HTK.out w2 HBW2.out)
      clear HTK
      go_wp2_with fail
      refine HTK2.out.mono ?_
      rintro e w3 ⟨rfl, hb3⟩
      have HB3 := Lib.hid (low_to HB2.out hb3)
      have HBW3 := Lib.hid (HBW2.out.trans (hb3.mono HBW2.out.size))
      clear hb3 c6 q0 q1 q2 q3 q4 q5 HTK2
      obtain ⟨c6, q0, q1, q2, q3, q4, q5⟩ := HSS.out w3 HB3.out
      cases tb with
      | false =>
        have HC2 := Lib.hid (show ck = 10 by rw [HC1.out, if_neg (by simp), if_pos rfl])
        go_wp2_with fail
        go_ret
        exact ⟨by rw [HC2.out]; rfl, HBW3.out⟩
      | true =>
        have HC2 := Lib.hid (show ck = if 256 < hb.size + db.size ∨ (0 < ps ∧ ps < ((hb.size + db.size : Nat) : Int)) ∨ 16 < ib.size then 2 else 0 by rw [HC1.out, if_neg (by simp), if_neg (by simp)])
        clear HC1
        by_cases b1 : 256 < (hb.size : Int) + db.size
        · have HC3 := Lib.hid (show ck = 2 by rw [HC2.out, if_pos (by omega)])
          go_wp2_with fail
          go_ret
          exact ⟨by rw [HC3.out]; rfl, HBW3.out⟩
        · by_cases b4 : 16 < (ib.size : Int)
          · have HC3 := Lib.hid (show ck = 2 by rw [HC2.out, if_pos (by omega)])
            by_cases b2 : 0 < ps
            · by_cases b3 : ps < (hb.size : Int) + db.size
              · go_wp2_with fail
                go_ret
                exact ⟨by rw [HC3.out]; rfl, HBW3.out⟩
              · go_wp2_with fail
                go_ret
                exact ⟨by rw [HC3.out]; rfl, HBW3.out⟩
            · go_wp2_with fail
              go_ret
              exact ⟨by rw [HC3.out]; rfl, HBW3.out⟩
          · by_cases b2 : 0 < ps
            · by_cases b3 : ps < (hb.size : Int) + db.size
              · have HC3 := Lib.hid (show ck = 2 by rw [HC2.out, if_pos (by omega)])
                go_wp2_with fail
                go_ret
                exact ⟨by rw [HC3.out]; rfl, HBW3.out⟩
              · have HC3 := Lib.hid (show ck = 0 by rw [HC2.out, if_neg (by omega)])
                go_wp2_with fail
                go_ret
                exact ⟨by rw [HC3.out]; rfl, HBW3.out⟩
            · have HC3 := Lib.hid (show ck = 0 by rw [HC2.out, if_neg (by omega)])
              go_wp2_with fail
              go_ret
              exact ⟨by rw [HC3.out]; rfl, HBW3.out⟩
    · have h0z : ((er : Int) == 0) = false := by simpa using h0
      have HC2 := Lib.hid (show ck = er by rw [HC1.out, if_pos h0])
      go_wp2_with fail
      go_ret
      exact ⟨by rw [HC2.out]; rfl, HBW2.out⟩
end

section
variable {W w : World} {F : Nat → Prop} {K S c : Nat} {room size : Int} {name : ByteArray} {p : Pl} {s : Sm}

set_option maxHeartbeats 4000000 in
set_option maxRecDepth 100000 in
theorem known_sm (h : SmAt W F K S c room size name p s w) (now : Int) (hn : 0 ≤ now ∧ now ≤ far) (hw : 0 ≤ p.win ∧ p.win ≤ 100000) (hl : s.ids.length ≤ 1000) (id : ByteArray) :
    Calls Tryz.prog 122 #[.pointer (some ⟨K, 0, none⟩), .int .i64 now, .string id] w fun e w' => e = .returned (.int .i64 (knownP p s.ids now id.data.toList)) ∧ Below w.heap.size w w' := by
  have hfar : far = 1099511627776 := rfl
  obtain ⟨FV, V, D, G, vf, vi, hP, _⟩ := h.ex
  have HP := Lib.hid (show ∀ w', Below w.heap.size w w' → SmParts W FV K V D G S c room size name p vf vi s w' from fun w' hb => hP.low hb)
  obtain ⟨via, vin, rfl⟩ := hP.ids.slice
  obtain ⟨n, hnl⟩ : ∃ n, s.ids.length = n := ⟨_, rfl⟩
  have HN := Lib.hid hnl
  obtain ⟨wn, hwn⟩ : ∃ wn, p.win = wn := ⟨_, rfl⟩
  have HWN := Lib.hid hwn
  rw [hwn] at hw
  rw [hnl] at hl
  have HCL := Lib.hid (show ∀ w', Below w.heap.size w w' → w'.cell? ⟨K, 9, none⟩ = some (.int .i64 wn) ∧ w'.cell? ⟨K, 11, none⟩ = some (.slice via n vin) ∧ K < w'.heap.size from fun w' hb => by
    obtain ⟨_, _, _, _, _, _, _, c9, _, c11, _⟩ := (HP.out w' hb).cells
    rw [hwn] at c9
    rw [hnl] at c11
    exact ⟨c9, c11, (HP.out w' hb).ltK⟩)
  obtain ⟨r, hr⟩ : ∃ r, knownP p s.ids now id.data.toList = r := ⟨_, rfl⟩
  have HR := Lib.hid hr
  rw [hr]
  obtain ⟨c9, c11, hKl⟩ := HCL.out w (Below.refl _ _)
  clear h hP hnl hwn hr
  by_cases hid : id.data.toList = []
  · have hide : id = ⟨#[]⟩ := by
      cases id with
      | mk d => simp at hid; subst hid; rfl
    subst hide
    obtain rfl : r = 0 := by rw [← HR.out]; unfold knownP; rw [if_pos (.inl rfl)]
    go_enter Tryz.func122, Tryz.ntmps122
    go_wp2_with fail
    go_ret
    exact ⟨rfl, Below.refl _ _⟩
  · have hT : ¬ id.toList = [] := by rw [ByteArray.toList_eq]; exact hid
    have hT2 : id.toList.isEmpty = false := by simpa using hT
    by_cases hw0 : wn = 0
    · subst hw0
      obtain rfl : r = 0 := by rw [← HR.out]; unfold knownP; rw [if_pos (.inr HWN.out)]
      go_enter Tryz.func122, Tryz.ntmps122
      go_wp2_with fail
      go_ret
      exact ⟨rfl, Below.refl _ _⟩
    · have HKN := Lib.hid (show r = (s.ids.reverse.find? (hitP p now id.data.toList)).elim 0 (·.seq) by
        rw [← HR.out]; unfold knownP; rw [if_neg (by rw [HWN.out]; exact fun e => e.elim hid hw0)]
        cases s.ids.reverse.find? (hitP p now id.data.toList) <;> rfl)
      have hwr : ∀ j : Nat, j ≤ 1000 → IntKind.i64.wrap ((j : Int) - 1) = (j : Int) - 1 := fun j hj => IntWalk.i64_in _ (by omega)
      have hw9 : IntKind.i64.wrap (now - wn) = now - wn := IntWalk.i64_in _ (by omega)
      have hwr0 := hwr n hl
      have HNOW := Lib.hid hn; have HL := Lib.hid hl; have HW := Lib.hid hw
      clear hid HR hn hw
      go_enter Tryz.func122, Tryz.ntmps122
      go_wp2_with fail
      go_loopw [7] (fun i wr => ∃ j : Nat, j ≤ n ∧ i = .int .i64 ((j : Int) - 1) ∧ Hid (Below w.heap.size w wr) ∧ Hid (∀ k ∈ s.ids.drop j, hitP p now id.data.toList k = false)) (fun i _ => (intOf i + 1).toNat)
      case atStart => exact ⟨n, Nat.le_refl _, rfl, Lib.hid (Below.refl _ _), Lib.hid fun k hk => by rw [List.drop_of_length_le (by rw [HN.out]; exact Nat.le_refl _)] at hk; cases hk⟩
      case round =>
        obtain ⟨j, hj, rfl, HB, HNO⟩ := hrel
        clear c9 c11 hKl hw0
        obtain ⟨c9, c11, hKl⟩ := HCL.out wr HB.out
        by_cases hj0 : j = 0
        · subst hj0
          have HR0 := Lib.hid (show r = 0 by rw [HKN.out, rfind_none (by simpa using HNO.out)]; rfl)
          go_wp2_with fail
          go_ret
          exact ⟨by rw [HR0.out]; rfl, HB.out⟩
        · obtain ⟨i, rfl⟩ : ∃ i, j = i + 1 := ⟨j - 1, by omega⟩
          have ei : (((i + 1 : Nat) : Int) - 1) = (i : Int) := by omega
          rw [ei]
          obtain ⟨q, hq⟩ : ∃ q, s.ids[i]? = some q := ⟨s.ids[i]'(by rw [HN.out]; omega), by simp⟩
          have hiz : (0 : Int) ≤ i ∧ (i : Int) < n := by omega
          have hrow := (HP.out wr HB.out).ids
          rw [HN.out] at hrow
          rcases hrow.2 with ⟨e, _⟩ | ⟨g, off, cap, cur, e, _⟩
          · simp at e; omega
          obtain ⟨rfl, rfl⟩ : via = some ⟨g, off, none⟩ ∧ vin = cap := by simp at e; exact e
          clear e
          obtain ⟨d0, d1, d2⟩ := cells_kn hrow i q hq (by omega)
          have hcap := hrow.cap_le.1
          obtain ⟨qb, hqb⟩ : ∃ qb : ByteArray, (⟨q.id.toArray⟩ : ByteArray) = qb := ⟨_, rfl⟩
          have hqb2 : qb.data.toList = q.id := by rw [← hqb]
          rw [hqb] at d0
          obtain ⟨w1, hw1⟩ : ∃ w1, w1 = wr.alloc (.cells #[.string qb, .int .i64 q.time, .int .i64 q.seq] 212) := ⟨_, rfl⟩
          have hb1 : Below wr.heap.size wr w1 := by rw [hw1]; exact (Below.refl _ _).alloc (Nat.le_refl _) _
          have he1 : w1.heap[wr.heap.size]? = some (.cells #[.string qb, .int .i64 q.time, .int .i64 q.seq] 212 (0, 0)) := by rw [hw1]; exact heap_alloc_new wr _
          obtain ⟨bx, hbx⟩ : ∃ bx, wr.heap.size = bx := ⟨_, rfl⟩
          rw [hbx] at he1
          have HBX := Lib.hid hbx
          have HB1 := Lib.hid (HB.out.trans (hb1.mono HB.out.size))
          have x0 : w1.cell? ⟨bx, 0, none⟩ = some (.string qb) := by rw [cell_of_row w1 bx 0 _ _ _ he1]; rfl
          have x1 : w1.cell? ⟨bx, 1, none⟩ = some (.int .i64 q.time) := by rw [cell_of_row w1 bx 1 _ _ _ he1]; rfl
          have x2 : w1.cell? ⟨bx, 2, none⟩ = some (.int .i64 q.seq) := by rw [cell_of_row w1 bx 2 _ _ _ he1]; rfl
          have HE1 := Lib.hid he1
          have hbl := heap_lt he1
          have HQ := Lib.hid (show s.ids[i]? = some q ∧ qb.data.toList = q.id from ⟨hq, hqb2⟩)
          obtain ⟨c9', _, hKl'⟩ := HCL.out w1 HB1.out
          have hwi := hwr i (by have := HL.out; omega)
          have hst : ∀ k ∈ s.ids.drop i, k = q ∨ k ∈ s.ids.drop (i + 1) := fun k hk => by
            obtain ⟨hlt, e⟩ := List.getElem?_eq_some_iff.1 hq
            rw [List.drop_eq_getElem_cons hlt, e] at hk
            exact List.mem_cons.1 hk
          have HST := Lib.hid hst
          clear hq hqb hqb2 hrow hst he1 hbx hb1
          go_upto_region 7 with fail
          rw [← hw1, HBX.out]
          clear hw1 c9 c11 hKl d0 d1 d2 hcap
          generalize hzz : (wn == 0) = zz
          have HZZ := Lib.hid hzz
          clear hzz
          go_cut [51] from 36 to 51 (fun c wx => c = .bool (hitP p now id.data.toList q) ∧ Hid (∃ nq, wx = w1.drewN nq))
          case first =>
            have el1 : qb.toList = q.id := by rw [ByteArray.toList_eq]; exact HQ.out.2
            have el2 : id.toList = id.data.toList := ByteArray.toList_eq _
            by_cases e1 : qb.toList = id.toList
            · have e1b : (qb.toList == id.toList) = true := by simpa using e1
              have HEQ := Lib.hid (show (q.id == id.data.toList) = true from by rw [← el1, ← el2]; exact e1b)
              clear el1 el2
              by_cases e2 : now - wn ≤ q.time
              · go_quiet (fail)
                go_wp2_with fail
                go_meet
                exact ⟨by unfold hitP; rw [HWN.out, HEQ.out]; simp [e2], Lib.hid ⟨_, rfl⟩⟩
              · go_quiet (fail)
                go_wp2_with fail
                go_meet
                exact ⟨by unfold hitP; rw [HWN.out, HEQ.out]; simp [e2], Lib.hid ⟨_, rfl⟩⟩
            · have e1b : (qb.toList == id.toList) = false := by simpa using e1
              have HEQ := Lib.hid (show (q.id == id.data.toList) = false from by rw [← el1, ← el2]; exact e1b)
              clear el1 el2
              go_quiet (fail)
              go_wp2_with fail
              go_meet
              exact ⟨by unfold hitP; rw [HEQ.out]; simp, Lib.hid ⟨_, rfl⟩⟩
          case rest =>
          have hzz := HZZ.out
          subst hzz
          obtain ⟨rfl, hcq⟩ := hcut
          obtain ⟨nq, rfl⟩ := hcq.out
          obtain ⟨w2, hw2⟩ : ∃ w2, w2 = w1.drewN nq := ⟨_, rfl⟩
          rw [← hw2]
          have hb2 : Below w1.heap.size w1 w2 := by rw [hw2]; exact below_drewN (Below.refl _ _) _
          have HB2 := Lib.hid (HB1.out.trans (hb2.mono HB1.out.size))
          have he2 := (hb2.block bx (heap_lt HE1.out)).trans HE1.out
          have x2' : w2.cell? ⟨bx, 2, none⟩ = some (.int .i64 q.seq) := by rw [cell_of_row w2 bx 2 _ _ _ he2]; rfl
          clear hw2 hb2 he2 x0 x1 x2 hbl c9' hKl'
          cases hh : hitP p now id.data.toList q with
          | true =>
            have HRQ := Lib.hid (show r = q.seq by rw [HKN.out, rfind_hit HQ.out.1 hh HNO.out]; rfl)
            clear hh
            go_wp2_with fail
            go_ret
            exact ⟨by rw [HRQ.out]; rfl, HB2.out⟩
          | false =>
            have HN2 := Lib.hid (show ∀ k ∈ s.ids.drop i, hitP p now id.data.toList k = false from fun k hk => by
              rcases HST.out k hk with rfl | hk
              · exact hh
              · exact HNO.out k hk)
            clear hh
            go_wp2_with fail
            exact ⟨⟨i, by omega, by go_num, HB2, HN2⟩, by simp [intOf]⟩
end
end Go.Proofs.YtbgchhgdlceceaaGreatDoor.Strm
