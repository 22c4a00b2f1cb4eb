/- Parts of the proof, joined: Room is made for a post: (*Stream).erase, room, walked. -/
import Derived.Test.YtbgchhgdlceceaaGreatDoorStrmBaseM31
namespace Go.Proofs.YtbgchhgdlceceaaGreatDoor.Strm
open Go.RowKit Heap
open Subj (Tok ML err err_wild)
open Vlt (Vt doV do_any store_vlt low_to Whole VPost)
open Sto (sixC Right seekR recV parts tk next_any StoreAt)
open Rec (Rc far)

/-- What a call leaves: an error's number, the stream turned. -/
def SmPost (W : World) (F : Nat → Prop) (K S c : Nat) (room size : Int) (name : ByteArray) (p : Pl) (ids : List Kn) (w : World) (o : Vt × Nat) (e : Ending) (w' : World) : Prop :=
  e = .returned (.int .i64 (o.2 : Nat)) ∧ NextSm W F K S c room size name p w ⟨o.1, ids⟩ w'

section
variable {W w : World} {F : Nat → Prop} {K S c : Nat} {room size : Int} {name : ByteArray} {p : Pl} {s : Sm} {x : Po}

theorem whole_do {r : Rc} (h : SmAt W F K S c room size name p s w) : Whole (c + 1) (doV room size s.v r).1 := by
  obtain ⟨FV, V, D, G, vf, vi, hP, _⟩ := h.ex
  exact hP.whole.do_ hP.vlt.sorted

/-- One record is done. -/
theorem do_sm (h : SmAt W F K S c room size name p s w) (hc : 16 * c ≤ 60000) (hm : ML W) (r : Rc) (hf : Sto.Fits r) : ∃ V, w.cell? ⟨K, 10, none⟩ = some (.pointer (some ⟨V, 0, none⟩)) ∧
    Calls Tryz.prog 124 #[.pointer (some ⟨V, 0, none⟩), recV r] w (SmPost W F K S (c + 1) room size name p s.ids w (doV room size s.v r)) := by
  obtain ⟨FV, V, D, G, vf, vi, hP, hF⟩ := h.ex
  refine ⟨V, hP.cells.2.2.2.2.2.2.2.2.1, (do_any hP.vlt hc hm r hf).mono ?_⟩
  rintro e w' ⟨rfl, hn⟩
  exact ⟨rfl, h.vlt hP hF (hn.more (by omega)) (whole_do h)⟩

set_option maxHeartbeats 4000000 in
set_option maxRecDepth 100000 in
theorem erase_sm (h : SmAt W F K S c room size name p s w) (hc : 16 * c ≤ 60000) (hm : ML W) (now : Int) (f : ByteArray) (hf : f.size ≤ 1048576) (he : err true f.data.toList = 0) :
    Calls Tryz.prog 189 #[.pointer (some ⟨K, 0, none⟩), .int .i64 now, .string f] w (SmPost W F K S (c + 1) room size name p s.ids w (eraseP room size now f.data.toList s.v)) := by
  obtain ⟨I, hR⟩ := h.right
  have hsq := seqs_of hR
  obtain ⟨FV, V, D, G, vf, vi, hP, hF⟩ := h.ex
  have HST := Lib.hid (store_vlt hP.vlt)
  have HNX := Lib.hid (show Calls Tryz.prog 85 #[.pointer (some ⟨S, 0, none⟩), .string f, .int .i64 0] w fun e w' => e = .returned (.tuple #[recV (seekR 0 (s.v.L.find? (tk f.data.toList))).1, .int .i64 ((seekR 0 (s.v.L.find? (tk f.data.toList))).2 : Nat)]) ∧ Below w.heap.size w w' from by
    obtain ⟨F2, hst⟩ := h.st
    refine (next_any hst hm f hf 0 (by omega)).mono ?_
    rintro e w' ⟨i, h1, h2, rfl, hb⟩
    have hi : s.v.L.drop i = s.v.L := by
      cases hL : s.v.L with
      | nil => simp
      | cons a l =>
        cases i with
        | zero => rfl
        | succ i =>
          have := h1 a (by rw [hL]; simp)
          have := (hsq a (by rw [hL]; simp)).1
          omega
    rw [hi, he]
    exact ⟨rfl, hb⟩)
  have HP := Lib.hid hP; have HH := Lib.hid h; have HF := Lib.hid hF; have HM := Lib.hid hm
  obtain ⟨_, _, _, _, _, _, _, _, c10, _, _⟩ := hP.cells
  have hKl := hP.ltK
  obtain ⟨o, ho⟩ : ∃ o, s.v.L.find? (tk f.data.toList) = o := ⟨_, rfl⟩
  rw [ho] at HNX
  have HE := Lib.hid (show eraseP room size now f.data.toList s.v = o.elim (s.v, 4) (fun r => doV room size s.v (eraR r.seq now)) from by rw [← ho]; unfold eraseP; cases s.v.L.find? (tk f.data.toList) <;> rfl)
  obtain ⟨E, hEe⟩ : ∃ E, eraseP room size now f.data.toList s.v = E := ⟨_, rfl⟩
  rw [hEe] at HE
  rw [hEe]
  clear h hP hF hm hR hsq ho hEe he hf
  cases o with
  | none =>
    obtain rfl : E = (s.v, 4) := HE.out
    simp only [seekR, recV] at HNX
    rw [if_neg (by simp)] at HNX
    have HF1 := Lib.hid (show ∀ w', Below w.heap.size w w' → SmPost W F K S (c + 1) room size name p s.ids w (s.v, 4) (.returned (.int .i64 4)) w' from fun w' hb => ⟨rfl, (NextSm.same HH.out hb).more (by omega)⟩)
    go_enter Tryz.func189, Tryz.ntmps189
    go_wp2_with fail
    refine HST.out.mono ?_
    rintro e w' ⟨rfl, rfl⟩
    go_wp2_with fail
    refine HNX.out.mono ?_
    rintro e w1 ⟨rfl, hb1⟩
    have HF2 := Lib.hid (HF1.out _ (hb1.alloc hb1.size (.cells #[.int .i64 0, .int .i64 0, .int .i64 0, .string ⟨#[]⟩, .string ⟨#[]⟩, .string ⟨#[]⟩] 33)))
    clear hb1 HNX HST HF1
    unfold Rc.zero
    go_wp2_with fail
    go_ret
    exact HF2.out
  | some r =>
    have HE : Hid (E = doV room size s.v (eraR r.seq now)) := HE
    obtain ⟨sb, hd, d, hp⟩ := parts r
    simp only [seekR, recV] at HNX
    rw [if_neg (by simp)] at HNX
    simp only at HNX
    rw [hp.s1, hp.h1, hp.d1] at HNX
    go_enter Tryz.func189, Tryz.ntmps189
    go_wp2_with fail
    refine HST.out.mono ?_
    rintro e w' ⟨rfl, rfl⟩
    go_wp2_with fail
    refine HNX.out.mono ?_
    rintro e w1 ⟨rfl, hb1⟩
    obtain ⟨w2, hw2⟩ : ∃ w2, w2 = w1.alloc (.cells #[.int .i64 r.kind, .int .i64 r.seq, .int .i64 r.time, .string sb, .string hd, .string d] 33) := ⟨_, rfl⟩
    have hb2 : Below w1.heap.size w1 w2 := by rw [hw2]; exact (Below.refl _ _).alloc (Nat.le_refl _) _
    have he2 : w2.heap[w1.heap.size]? = some (.cells #[.int .i64 r.kind, .int .i64 r.seq, .int .i64 r.time, .string sb, .string hd, .string d] 33 (0, 0)) := by rw [hw2]; exact heap_alloc_new w1 _
    obtain ⟨bx, hbx⟩ : ∃ bx, w1.heap.size = bx := ⟨_, rfl⟩
    rw [hbx] at he2
    have HBX := Lib.hid hbx
    obtain ⟨x2, hx2⟩ : ∃ x2, x2 = w2.drew := ⟨_, rfl⟩
    have hbw : Below w.heap.size w w2 := hb1.trans (hb2.mono hb1.size)
    have hbw2 : Below w.heap.size w x2 := by rw [hx2]; exact hbw.drew
    obtain ⟨_, _, _, _, _, _, _, _, d10, _, _⟩ := (HP.out.low hbw).cells
    have hKl2 := (HP.out.low hbw).ltK
    obtain ⟨q0, q1, q2, q3, q4, q5⟩ := sixC he2
    have HDO := Lib.hid (show Calls Tryz.prog 124 #[.pointer (some ⟨V, 0, none⟩), .agg #[.int .i64 2, .int .i64 r.seq, .int .i64 now, .string ⟨#[]⟩, .string ⟨#[]⟩, .string ⟨#[]⟩]] x2 (SmPost W F K S (c + 1) room size name p s.ids w E) from by
      rw [HE.out]
      obtain ⟨V', h1, h2⟩ := do_sm (HH.out.low hbw2) hc HM.out (eraR r.seq now) ⟨by show 0 ≤ 1048576; omega, by show 0 ≤ 1048576; omega, by show 0 ≤ 1048576; omega⟩
      obtain ⟨_, _, _, _, _, _, _, _, e10, _, _⟩ := (HP.out.low hbw2).cells
      rw [e10] at h1
      simp only [Option.some.injEq, Value.pointer.injEq, Addr.mk.injEq, and_true] at h1
      subst h1
      refine h2.mono ?_
      rintro e w' ⟨rfl, hn⟩
      exact ⟨rfl, NextSm.trans (fun k hk => .inl hk) (Heap.Touch.ofBelow hbw2) hn⟩)
    clear hb1 hb2 he2 hbx hbw hbw2 HNX HST HP HH HF c10 hKl
    go_upto_region 4 with fail
    rw [← hw2, HBX.out]
    clear hw2
    go_wp2_with fail
    go_still_tail 8, (by kernel_rfl)
    change wpList _ _ _ _ _ w2.drew
    rw [← hx2]
    clear hx2
    go_wp2_with fail
    refine HDO.out.mono ?_
    rintro e w3 ⟨rfl, hn⟩
    have HN := Lib.hid (show SmPost W F K S (c + 1) room size name p s.ids w E (.returned (.int .i64 (E.2 : Nat))) w3 from ⟨rfl, hn⟩)
    clear hn HDO
    go_wp2_with fail
    go_ret
    exact HN.out

theorem thin_step {t : Vt → Bool} {e : Vt → Vt × Nat} {n : Nat} {s : Vt} (h : t s = true) (h0 : (e s).2 = 0) : thin t e (n + 1) s = thin t e n (e s).1 := by
  conv => lhs; unfold thin
  rw [if_pos h, if_neg (by omega)]
theorem thin_fail {t : Vt → Bool} {e : Vt → Vt × Nat} {n : Nat} {s : Vt} (h : t s = true) (h0 : (e s).2 ≠ 0) : thin t e (n + 1) s = e s := by
  conv => lhs; unfold thin
  rw [if_pos h, if_pos h0]
theorem thin_stop {t : Vt → Bool} {e : Vt → Vt × Nat} {n : Nat} {s : Vt} (h : t s = false) : thin t e (n + 1) s = (s, 0) := by
  conv => lhs; unfold thin
  rw [if_neg (by rw [h]; simp)]

/-- As long as there is too much. -/
def Rd (W : World) (F : Nat → Prop) (K S : Nat) (room size : Int) (name : ByteArray) (p : Pl) (ids : List Kn) (t : Vt → Bool) (e : Vt → Vt × Nat) (N : Nat) (w : World) (R : Vt × Nat) (wr : World) : Prop :=
  ∃ c s j, R = thin t e (201 - j) s ∧ s.L.length + j ≤ 200 ∧ NextSm W F K S c room size name p w ⟨s, ids⟩ wr ∧ c + s.L.length ≤ N

theorem NextSm.len {w1 : World} (h : NextSm W F K S c room size name p w s w1) : Sto.lenOf S w1 = s.v.L.length := by
  obtain ⟨⟨F', h1, _⟩, _⟩ := h
  obtain ⟨F2, hst⟩ := h1.st
  obtain ⟨M, x, N, I, v, h3, _⟩ := hst.ex
  exact h3.len

/-- What room leaves. -/
def RoomPost (W : World) (F : Nat → Prop) (K S N : Nat) (room size : Int) (name : ByteArray) (p : Pl) (ids : List Kn) (w : World) (o : Vt × Nat) (e : Ending) (w' : World) : Prop :=
  e = .returned (.int .i64 (o.2 : Nat)) ∧ ∃ c, NextSm W F K S c room size name p w ⟨o.1, ids⟩ w' ∧ c + o.1.L.length ≤ N

set_option maxHeartbeats 8000000 in
set_option maxRecDepth 100000 in
theorem room_sm (h : SmAt W F K S c room size name p s w) (hc : 16 * (c + s.v.L.length + 1) ≤ 60000) (hm : ML W) (hx : FitsP x) (now : Int) (he : err false x.subj = 0) :
    Calls Tryz.prog 123 #[.pointer (some ⟨K, 0, none⟩), .int .i64 now, postV x] w (RoomPost W F K S (c + s.v.L.length + 1) room size name p s.ids w (roomP p room size now x s.v)) := by
  obtain ⟨I, hR⟩ := h.right
  have hfew := hR.few
  obtain ⟨sb, ib, hb, db, hp⟩ := partsP x
  obtain ⟨xv, hxv⟩ : ∃ xv, postV x = xv := ⟨_, rfl⟩
  have hsize := fun w' => size_any (w := w') hx
  have hCR := fun (c' : Nat) (s' : Sm) (w' : World) (F' : Nat → Prop) (h' : SmAt W F' K S c' room size name p s' w') (hc' : 16 * c' ≤ 80000) => crowded_any h' hc' hm hx he
  have hFU := fun (c' : Nat) (s' : Sm) (w' : World) (F' : Nat → Prop) (h' : SmAt W F' K S c' room size name p s' w') => full_any h' hx
  have hE1 := fun (c' : Nat) (s' : Sm) (w' : World) (F' : Nat → Prop) (h' : SmAt W F' K S c' room size name p s' w') (hc' : 16 * c' ≤ 60000) => erase_sm h' hc' hm now sb (by rw [hp.s3]; exact hx.s) (by rw [hp.s2]; exact err_wild x.subj he)
  have hE2 := fun (c' : Nat) (s' : Sm) (w' : World) (F' : Nat → Prop) (h' : SmAt W F' K S c' room size name p s' w') (hc' : 16 * c' ≤ 60000) => erase_sm h' hc' hm now ⟨#[62]⟩ (by show (1 : Nat) ≤ _; omega) (by show err true [62] = 0; decide)
  rw [hp.s2] at hE1
  have e62 : (⟨#[62]⟩ : ByteArray).data.toList = [62] := rfl
  rw [e62] at hE2
  obtain ⟨V, vf, vi, hcl⟩ := h.cells
  obtain ⟨w1, hw1⟩ : ∃ w1, w1 = w.alloc (.cells #[.string sb, .string ib, .string hb, .string db, .int .i64 x.exp, .int .i64 x.roll] 112) := ⟨_, rfl⟩
  have hb1 : Below w.heap.size w w1 := by rw [hw1]; exact (Below.refl _ _).alloc (Nat.le_refl _) _
  have he1 : w1.heap[w.heap.size]? = some (.cells #[.string sb, .string ib, .string hb, .string db, .int .i64 x.exp, .int .i64 x.roll] 112 (0, 0)) := by rw [hw1]; exact heap_alloc_new w _
  obtain ⟨bx, hbx⟩ : ∃ bx, w.heap.size = bx := ⟨_, rfl⟩
  have hnb : ¬ F bx := fun e => by have := h.bF bx e; omega
  rw [hbx] at he1
  have h1 := h.low hb1
  obtain ⟨by_, hby⟩ : ∃ by_, p.bytes = by_ := ⟨_, rfl⟩
  obtain ⟨ds, hds⟩ : ∃ ds, p.disc = ds := ⟨_, rfl⟩
  obtain ⟨z, hz⟩ : ∃ z, sizeP x = z := ⟨_, rfl⟩
  rw [hz] at hsize
  rw [hp.v] at hsize hCR hFU ⊢
  have HRO := Lib.hid (show roomP p room size now x s.v = if 0 < by_ ∧ by_ < (z : Nat) then (s.v, 8) else if ds = 1 then (if crowdedP p x s.v ∨ fullP p x s.v then (s.v, 8) else (s.v, 0))
      else if (thin (crowdedP p x) (eraseP room size now x.subj) 201 s.v).2 ≠ 0 then thin (crowdedP p x) (eraseP room size now x.subj) 201 s.v
      else thin (fullP p x) (eraseP room size now [62]) 201 (thin (crowdedP p x) (eraseP room size now x.subj) 201 s.v).1 from by rw [← hby, ← hds, ← hz]; rfl)
  obtain ⟨RO, hROe⟩ : ∃ RO, roomP p room size now x s.v = RO := ⟨_, rfl⟩
  rw [hROe] at HRO ⊢
  have HCL := Lib.hid (show ∀ w' F' c' s', Heap.Touch F w1 w' → SmAt W F' K S c' room size name p s' w' → w'.cell? ⟨K, 3, none⟩ = some (.int .i64 by_) ∧ w'.cell? ⟨K, 7, none⟩ = some (.int .i64 ds) ∧ w'.cell? ⟨bx, 0, none⟩ = some (.string sb) ∧ w'.cell? ⟨bx, 1, none⟩ = some (.string ib) ∧ w'.cell? ⟨bx, 2, none⟩ = some (.string hb) ∧ w'.cell? ⟨bx, 3, none⟩ = some (.string db) ∧ w'.cell? ⟨bx, 4, none⟩ = some (.int .i64 x.exp) ∧ w'.cell? ⟨bx, 5, none⟩ = some (.int .i64 x.roll) ∧ K < w'.heap.size from fun w' F' c' s' ht h' => by
    obtain ⟨V', vf', vi', hcl'⟩ := h'.cells
    obtain ⟨_, _, c3, _, _, _, c7, _, _, _, _, hl⟩ := hcl' w' (Below.refl _ _)
    obtain ⟨q0, q1, q2, q3, q4, q5⟩ := sixC ((ht.block bx (heap_lt he1) hnb).trans he1)
    rw [hby] at c3
    rw [hds] at c7
    exact ⟨c3, c7, q0, q1, q2, q3, q4, q5, hl⟩)
  have HSI := Lib.hid hsize; have HCR := Lib.hid hCR; have HFU := Lib.hid hFU; have HE1 := Lib.hid hE1; have HE2 := Lib.hid hE2
  have HH := Lib.hid h1; have HB1 := Lib.hid hb1; have HBX := Lib.hid hbx
  have HFI := Lib.hid (show ∀ (o : Vt × Nat) (c' : Nat) (w' : World), NextSm W F K S c' room size name p w1 ⟨o.1, s.ids⟩ w' → c' + o.1.L.length ≤ c + s.v.L.length + 1 → RO = o → RoomPost W F K S (c + s.v.L.length + 1) room size name p s.ids w RO (.returned (.int .i64 (o.2 : Nat))) w' from fun o c' w' h1 h2 h3 => by
    subst h3
    exact ⟨rfl, c', NextSm.trans (fun k hk => .inl hk) (Heap.Touch.ofBelow hb1) h1, h2⟩)
  obtain ⟨l, hl⟩ : ∃ l, s.v.L.length = l := ⟨_, rfl⟩
  have HL := Lib.hid hl
  rw [hl] at hc hfew
  clear h h1 hb1 he1 hbx hnb hm hx he hp hcl hsize hCR hFU hE1 hE2 e62 hby hds hz hROe hR hxv hl
  go_enter Tryz.func123, Tryz.ntmps123
  go_upto_region 1 with fail
  rw [← hw1, HBX.out]
  clear hw1
  have hSS : ∀ w', Below w1.heap.size w1 w' → w'.cell? ⟨K, 3, none⟩ = some (.int .i64 by_) ∧ w'.cell? ⟨bx, 0, none⟩ = some (.string sb) ∧ w'.cell? ⟨bx, 1, none⟩ = some (.string ib) ∧ w'.cell? ⟨bx, 2, none⟩ = some (.string hb) ∧ w'.cell? ⟨bx, 3, none⟩ = some (.string db) ∧ w'.cell? ⟨bx, 4, none⟩ = some (.int .i64 x.exp) ∧ w'.cell? ⟨bx, 5, none⟩ = some (.int .i64 x.roll) := fun w' hb => by
    obtain ⟨c3, _, q0, q1, q2, q3, q4, q5, _⟩ := HCL.out w' F c s (Heap.Touch.ofBelow hb) (HH.out.low hb)
    exact ⟨c3, q0, q1, q2, q3, q4, q5⟩
  have HSS := Lib.hid hSS
  clear hSS
  go_cut [24] from 9 to 24 (fun s24 wx => s24 = .bool (decide (0 < by_) && decide (by_ < (z : Int))) ∧ Hid (Below w1.heap.size w1 wx))
  case first =>
    have hbd : Below w1.heap.size w1 w1.drew := (Below.refl _ _).drew
    by_cases h0 : 0 < by_
    · have h0d : decide (0 < by_) = true := decide_eq_true h0
      go_region_held3 (fun w' => w'.cell? ⟨K, 3, none⟩ = some (.int .i64 by_) ∧ w'.cell? ⟨bx, 0, none⟩ = some (.string sb) ∧ w'.cell? ⟨bx, 1, none⟩ = some (.string ib) ∧ w'.cell? ⟨bx, 2, none⟩ = some (.string hb) ∧ w'.cell? ⟨bx, 3, none⟩ = some (.string db) ∧ w'.cell? ⟨bx, 4, none⟩ = some (.int .i64 x.exp) ∧ w'.cell? ⟨bx, 5, none⟩ = some (.int .i64 x.roll)) (first | (with_reducible exact HSS.out _ (Below.refl _ _)) | (with_reducible exact HSS.out _ hbd) | (with_reducible exact HSS.out _ (by assumption)) | go_keep)
        ((go_at_call 186; ((refine (HSI.out _).mono ?_); rintro e w2 ⟨rfl, hb2⟩; have hb2' := low_to (w0 := w1) (by first | assumption | exact Below.refl _ _) hb2; clear hb2)))
      have HB2 := Lib.hid hb2'
      clear hb2' hbd
      go_wp2_with fail
      go_meet
      exact ⟨by simp [h0d], HB2⟩
    · have h0d : decide (0 < by_) = false := decide_eq_false h0
      obtain ⟨c3, q0, q1, q2, q3, q4, q5⟩ := HSS.out w1 (Below.refl _ _)
      go_quiet (fail)
      go_wp2_with fail
      go_meet
      exact ⟨by simp [h0d], Lib.hid (below_drewN (Below.refl _ _) _)⟩
  case rest =>
  obtain ⟨rfl, hbx2⟩ := hcut
  have HN2 := Lib.hid (NextSm.same HH.out hbx2.out)
  clear HSS hbx2
  obtain ⟨⟨_, h2, _⟩, ht2⟩ := HN2.out
  obtain ⟨c3, c7, q0, q1, q2, q3, q4, q5, hKl⟩ := HCL.out _ _ _ _ ht2 h2
  have H2 := Lib.hid h2
  clear h2 ht2
  by_cases hA : 0 < by_ ∧ by_ < (z : Int)
  · have hAd : (decide (0 < by_) && decide (by_ < (z : Int))) = true := by simp [hA]
    have HF := Lib.hid (HFI.out (s.v, 8) c _ HN2.out (by simp only; omega) (by rw [HRO.out, if_pos hA]))
    rw [hAd]
    clear hAd hA
    go_wp2_with fail
    go_ret
    exact HF.out
  · have hAd : (decide (0 < by_) && decide (by_ < (z : Int))) = false := by
      rw [Bool.and_eq_false_iff, decide_eq_false_iff_not, decide_eq_false_iff_not]; omega
    have HRO1 := Lib.hid (show RO = if ds = 1 then (if crowdedP p x s.v ∨ fullP p x s.v then (s.v, 8) else (s.v, 0)) else if (thin (crowdedP p x) (eraseP room size now x.subj) 201 s.v).2 ≠ 0 then thin (crowdedP p x) (eraseP room size now x.subj) 201 s.v else thin (fullP p x) (eraseP room size now [62]) 201 (thin (crowdedP p x) (eraseP room size now x.subj) 201 s.v).1 from by rw [HRO.out, if_neg hA])
    rw [hAd]
    clear hAd hA HRO
    by_cases hd : ds = 1
    · subst hd
      have HRO2 := Lib.hid (show RO = if crowdedP p x s.v ∨ fullP p x s.v then (s.v, 8) else (s.v, 0) from by rw [HRO1.out, if_pos rfl])
      have HC2 := Lib.hid (HCR.out _ _ _ _ H2.out (by omega))
      have HU2 := Lib.hid (show ∀ w', Below (_ : World).heap.size _ w' → _ from fun w' hb => HFU.out _ _ w' _ (H2.out.low hb))
      obtain ⟨B1, hB1⟩ : ∃ B1, crowdedP p x s.v = B1 := ⟨_, rfl⟩
      obtain ⟨B2, hB2⟩ : ∃ B2, fullP p x s.v = B2 := ⟨_, rfl⟩
      rw [hB1] at HC2 HRO2
      rw [hB2] at HU2 HRO2
      clear hB1 hB2 HRO1 HCR HFU HE1 HE2 HSI
      go_wp2_with fail
      refine HC2.out.mono ?_
      rintro e w3 ⟨rfl, hb3⟩
      obtain ⟨⟨_, h3, _⟩, ht3⟩ := HN2.out.low hb3
      obtain ⟨c3, c7, q0, q1, q2, q3, q4, q5, hKl⟩ := HCL.out _ _ _ _ ht3 h3
      cases B1 with
      | true =>
        have HF := Lib.hid (HFI.out (s.v, 8) c w3 (HN2.out.low hb3) (by simp only; omega) (by rw [HRO2.out, if_pos (.inl rfl)]))
        clear hb3 h3 ht3
        go_wp2_with fail
        go_ret
        exact HF.out
      | false =>
        have HU3 := Lib.hid (HU2.out w3 hb3)
        have HN3 := Lib.hid (HN2.out.low hb3)
        clear hb3 h3 ht3 HU2
        go_wp2_with fail
        refine HU3.out.mono ?_
        rintro e w4 ⟨rfl, hb4⟩
        have HN4 := Lib.hid (HN3.out.low hb4)
        clear hb4 HU3 HC2 c3 c7 q0 q1 q2 q3 q4 q5 hKl
        cases B2 with
        | true =>
          have HF := Lib.hid (HFI.out (s.v, 8) c w4 HN4.out (by simp only; omega) (by rw [HRO2.out, if_pos (.inr rfl)]))
          go_wp2_with fail
          go_ret
          exact HF.out
        | false =>
          have HF := Lib.hid (HFI.out (s.v, 0) c w4 HN4.out (by simp only; omega) (by rw [HRO2.out, if_neg (by simp)]))
          go_wp2_with fail
          go_ret
          exact HF.out
    · have HRO2 := Lib.hid (show RO = if (thin (crowdedP p x) (eraseP room size now x.subj) 201 s.v).2 ≠ 0 then thin (crowdedP p x) (eraseP room size now x.subj) 201 s.v else thin (fullP p x) (eraseP room size now [62]) 201 (thin (crowdedP p x) (eraseP room size now x.subj) 201 s.v).1 from by rw [HRO1.out, if_neg hd])
      obtain ⟨T1, hT1⟩ : ∃ T1, thin (crowdedP p x) (eraseP room size now x.subj) 201 s.v = T1 := ⟨_, rfl⟩
      rw [hT1] at HRO2
      have HRO3 := Lib.hid HRO2.out
      have HX1 := Lib.hid (show Rd W F K S room size name p s.ids (crowdedP p x) (eraseP room size now x.subj) (c + l) w1 T1 _ from ⟨c, s.v, 0, by rw [← hT1], by rw [HL.out]; omega, HN2.out, by rw [HL.out]; exact Nat.le_refl _⟩)
      have hdz : (ds == 1) = false := by simpa using hd
      clear hT1 HRO1 HRO2 H2 HN2 HSI hd
      go_wp2_with fail
      clear hdz
      generalize (ds == 1) = zz
      go_loopw [6] (fun r6 wr => r6 = .int .i64 0 ∧ Hid (Rd W F K S room size name p s.ids (crowdedP p x) (eraseP room size now x.subj) (c + l) w1 T1 wr)) (fun _ wr => Sto.lenOf S wr)
      case atStart => exact ⟨rfl, HX1⟩
      case round =>
        obtain ⟨rfl, HR⟩ := hrel
        obtain ⟨c', s', j, e1, e2, hn, e3⟩ := HR.out
        have HTT := Lib.hid e1
        have HN := Lib.hid hn
        obtain ⟨⟨F', h', hF'⟩, ht⟩ := hn
        obtain ⟨c3, c7, q0, q1, q2, q3, q4, q5, hKl⟩ := HCL.out _ _ _ _ ht h'
        have HC2 := Lib.hid (HCR.out c' ⟨s', s.ids⟩ wr F' h' (by omega))
        obtain ⟨B1, hB1⟩ : ∃ B1, (crowdedP p x) s' = B1 := ⟨_, rfl⟩
        have HC2' := HC2.out
        simp only at HC2'
        rw [hB1] at HC2'
        have HC3 := Lib.hid HC2'
        have HB1 := Lib.hid hB1
        clear HC2 HC2' hB1 e1 hF' ht h' HR
        go_wp2_with fail
        refine HC3.out.mono ?_
        rintro e w3 ⟨rfl, hb3⟩
        have HN3 := Lib.hid (HN.out.low hb3)
        clear hb3 HC3 c3 c7 q0 q1 q2 q3 q4 q5 hKl
        obtain ⟨⟨F3, h3, hF3⟩, ht3⟩ := HN3.out
        obtain ⟨c3, c7, q0, q1, q2, q3, q4, q5, hKl⟩ := HCL.out _ _ _ _ ht3 h3
        cases B1 with
        | false =>
          have HT1 := Lib.hid (show T1 = (s', 0) from by rw [HTT.out, show 201 - j = (200 - j) + 1 by omega, thin_stop HB1.out])
          clear HTT HB1 h3 hF3 ht3
          have HRO4 := Lib.hid (show RO = thin (fullP p x) (eraseP room size now [62]) 201 s' from by rw [HRO3.out, HT1.out, if_neg (by simp)])
          obtain ⟨T2, hT2⟩ : ∃ T2, thin (fullP p x) (eraseP room size now [62]) 201 s' = T2 := ⟨_, rfl⟩
          rw [hT2] at HRO4
          have HX2 := Lib.hid (show Rd W F K S room size name p s.ids (fullP p x) (eraseP room size now [62]) (c + l) w1 T2 w3 from ⟨c', s', 0, by rw [← hT2], by omega, HN3.out, e3⟩)
          clear hT2 HT1 HN HN3 e2 e3 HRO3
          go_wp2_with fail
          go_loopw [6] (fun r6 wr => r6 = .int .i64 0 ∧ Hid (Rd W F K S room size name p s.ids (fullP p x) (eraseP room size now [62]) (c + l) w1 T2 wr)) (fun _ wr => Sto.lenOf S wr)
          case atStart => exact ⟨rfl, HX2⟩
          case round =>
            obtain ⟨rfl, HR⟩ := hrel
            obtain ⟨c', s', j, e1, e2, hn, e3⟩ := HR.out
            have HTT := Lib.hid e1
            have HN := Lib.hid hn
            obtain ⟨⟨F', h', hF'⟩, ht⟩ := hn
            obtain ⟨c3, c7, q0, q1, q2, q3, q4, q5, hKl⟩ := HCL.out _ _ _ _ ht h'
            have HC2 := Lib.hid (HFU.out c' ⟨s', s.ids⟩ wr F' h')
            obtain ⟨B1, hB1⟩ : ∃ B1, (fullP p x) s' = B1 := ⟨_, rfl⟩
            have HC2' := HC2.out
            simp only at HC2'
            rw [hB1] at HC2'
            have HC3 := Lib.hid HC2'
            have HB1 := Lib.hid hB1
            clear HC2 HC2' hB1 e1 hF' ht h' HR
            go_wp2_with fail
            refine HC3.out.mono ?_
            rintro e w3 ⟨rfl, hb3⟩
            have HN3 := Lib.hid (HN.out.low hb3)
            clear hb3 HC3 c3 c7 q0 q1 q2 q3 q4 q5 hKl
            obtain ⟨⟨F3, h3, hF3⟩, ht3⟩ := HN3.out
            obtain ⟨c3, c7, q0, q1, q2, q3, q4, q5, hKl⟩ := HCL.out _ _ _ _ ht3 h3
            cases B1 with
            | false =>
              have HT1 := Lib.hid (show T2 = (s', 0) from by rw [HTT.out, show 201 - j = (200 - j) + 1 by omega, thin_stop HB1.out])
              clear HTT HB1 h3 hF3 ht3
              have HF := Lib.hid (HFI.out (s', 0) c' w3 HN3.out (by simp only; have := HL.out; omega) (by rw [HRO4.out, HT1.out]))
              go_wp2_with fail
              go_ret
              exact HF.out
            | true =>
              have HE3 := Lib.hid (HE2.out c' ⟨s', s.ids⟩ w3 F3 h3 (by omega))
              have HT3 := Lib.hid (And.intro hF3 ht3)
              have HLN := Lib.hid HN.out.len
              obtain ⟨E, hE⟩ : ∃ E, eraseP room size now [62] s' = E := ⟨_, rfl⟩
              have HE4 := HE3.out
              simp only at HE4
              rw [hE] at HE4
              have HE5 := Lib.hid HE4
              have HEE := Lib.hid hE
              clear h3 hF3 ht3 HE3 HE4 hE
              go_wp2_with fail
              refine HE5.out.mono ?_
              rintro e w4 ⟨rfl, hn4⟩
              have HN4 := Lib.hid (NextSm.trans HT3.out.1 HT3.out.2 hn4)
              clear hn4 HE5 c3 c7 q0 q1 q2 q3 q4 q5 hKl
              have hst := erase_step room size now ([62]) s'
              rw [HEE.out] at hst
              by_cases hE0 : E.2 = 0
              · have hst2 := hst.resolve_left (fun h => h.1 hE0)
                have HX := Lib.hid (show Rd W F K S room size name p s.ids (fullP p x) (eraseP room size now [62]) (c + l) w1 T2 w4 from
                  ⟨c' + 1, E.1, j + 1, by rw [HTT.out, show 201 - j = (201 - (j + 1)) + 1 by omega, thin_step HB1.out (by rw [HEE.out]; exact hE0), HEE.out], by omega, HN4.out, by omega⟩)
                have HM4 := Lib.hid (show Sto.lenOf S w4 < Sto.lenOf S wr from by
                  rw [HN4.out.len, HLN.out]; exact hst2.2.2.1)
                clear hst hst2
                rw [hE0]
                clear hE0
                go_wp2_with fail
                first | exact ⟨⟨rfl, HX⟩, HM4.out⟩ | exact ⟨⟨_, _, _, _, _, _, _, _, _, _, _, _, _, ⟨rfl, HX⟩, rfl⟩, HM4.out⟩
              · have hst2 := hst.resolve_right (fun h => hE0 h.1)
                have hEz : ((E.2 : Int) == 0) = false := by simpa using hE0
                have HT1 := Lib.hid (show T2 = E from by rw [HTT.out, show 201 - j = (200 - j) + 1 by omega, thin_fail HB1.out (by rw [HEE.out]; exact hE0), HEE.out])
                have HF := Lib.hid (HFI.out E (c' + 1) w4 HN4.out (by rw [hst2.2.1]; have := HL.out; omega) (by rw [HRO4.out, HT1.out]))
                clear hst hst2
                go_wp2_with fail
                go_ret
                exact HF.out
        | true =>
          have HE3 := Lib.hid (HE1.out c' ⟨s', s.ids⟩ w3 F3 h3 (by omega))
          have HT3 := Lib.hid (And.intro hF3 ht3)
          have HLN := Lib.hid HN.out.len
          obtain ⟨E, hE⟩ : ∃ E, eraseP room size now x.subj s' = E := ⟨_, rfl⟩
          have HE4 := HE3.out
          simp only at HE4
          rw [hE] at HE4
          have HE5 := Lib.hid HE4
          have HEE := Lib.hid hE
          clear h3 hF3 ht3 HE3 HE4 hE
          go_wp2_with fail
          refine HE5.out.mono ?_
          rintro e w4 ⟨rfl, hn4⟩
          have HN4 := Lib.hid (NextSm.trans HT3.out.1 HT3.out.2 hn4)
          clear hn4 HE5 c3 c7 q0 q1 q2 q3 q4 q5 hKl
          have hst := erase_step room size now (x.subj) s'
          rw [HEE.out] at hst
          by_cases hE0 : E.2 = 0
          · have hst2 := hst.resolve_left (fun h => h.1 hE0)
            have HX := Lib.hid (show Rd W F K S room size name p s.ids (crowdedP p x) (eraseP room size now x.subj) (c + l) w1 T1 w4 from
              ⟨c' + 1, E.1, j + 1, by rw [HTT.out, show 201 - j = (201 - (j + 1)) + 1 by omega, thin_step HB1.out (by rw [HEE.out]; exact hE0), HEE.out], by omega, HN4.out, by omega⟩)
            have HM4 := Lib.hid (show Sto.lenOf S w4 < Sto.lenOf S wr from by
              rw [HN4.out.len, HLN.out]; exact hst2.2.2.1)
            clear hst hst2
            rw [hE0]
            clear hE0
            go_wp2_with fail
            first | exact ⟨⟨rfl, HX⟩, HM4.out⟩ | exact ⟨⟨_, _, _, _, _, _, _, _, _, _, _, _, _, ⟨rfl, HX⟩, rfl⟩, HM4.out⟩
          · have hst2 := hst.resolve_right (fun h => hE0 h.1)
            have hEz : ((E.2 : Int) == 0) = false := by simpa using hE0
            have HT1 := Lib.hid (show T1 = E from by rw [HTT.out, show 201 - j = (200 - j) + 1 by omega, thin_fail HB1.out (by rw [HEE.out]; exact hE0), HEE.out])
            have HF := Lib.hid (HFI.out E (c' + 1) w4 HN4.out (by rw [hst2.2.1]; have := HL.out; omega) (by rw [HRO3.out, HT1.out, if_pos hE0]))
            clear hst hst2
            go_wp2_with fail
            go_ret
            exact HF.out
end
end Go.Proofs.YtbgchhgdlceceaaGreatDoor.Strm
