/- Parts of the proof, joined: Decode, walked: whatever is handed in.; A block's records: what is told of scanning it, in plain Lean; blog.scan, walked.; A disk in memory: its three cells, the map of its files, each file's two cells.; The disk's small calls: Used, Read, Sync. -/
import Derived.Test.YtbgchhgdlceceaaGreatDoorPlansOwnUptoM30
import Derived.Maps.RangeWalk
namespace Go.Proofs.YtbgchhgdlceceaaGreatDoor.Rec
open Go.RowKit Subj Pack Crc

theorem size_list (l : List UInt8) : (⟨l.toArray⟩ : ByteArray).size = l.length := by
  show l.toArray.size = _
  simp

theorem decL_body {l : List UInt8} {t : List UInt8} {k : Nat} (h : rdT l 1024 = (t, k, 0)) (hk : k + 4 ≤ l.length) : decL l = bodyV ⟨t.toArray⟩ k l := by
  unfold decL bodyV
  rw [h]
  simp only [ne_eq, not_true_eq_false, if_false]
  rw [if_neg (by omega)]
  show (match t with | [] => _ | x :: rest => _) = (if _ then _ else match t with | [] => _ | x :: rest => _)
  cases t with
  | nil => simp
  | cons x rest => rfl

set_option maxRecDepth 100000 in
theorem decode_err (s : ByteArray) (n : Nat) (hn : n ≠ 0) (w : World) (hR : ∀ w, Calls Tryz.prog 215 #[.string s, .int .i64 1024] w fun e w' => e = .returned (.tuple #[.string ByteArray.empty, .int .i64 0, .int .i64 n]) ∧ w = w') :
    Calls Tryz.prog 172 #[.string s] w fun e w' => e = .returned (ErrV n) ∧ Below w.heap.size w w' := by
  have HR := Lib.hid hR; clear hR
  have h1 : ((n : Int) != 0) = true := by simp; omega
  go_enter Tryz.func172, Tryz.ntmps172
  go_wp2_with (go_at_call 215; refine (HR.out _).mono ?_; rintro e w' ⟨rfl, rfl⟩)
  go_returns
  exact ⟨errV_eq rfl n, by go_grown⟩

set_option maxRecDepth 100000 in
theorem decode_short (s B : ByteArray) (k : Nat) (w : World) (hs : s.size ≤ maxLen) (hk : k ≤ s.size) (hlt : s.size < k + 4) (hR : ∀ w, Calls Tryz.prog 215 #[.string s, .int .i64 1024] w fun e w' => e = .returned (.tuple #[.string B, .int .i64 k, .int .i64 0]) ∧ w = w') :
    Calls Tryz.prog 172 #[.string s] w fun e w' => e = .returned (ErrV 6) ∧ Below w.heap.size w w' := by
  have HR := Lib.hid hR; clear hR
  unfold maxLen at hs
  go_enter Tryz.func172, Tryz.ntmps172
  go_wp2_with (go_at_call 215; refine (HR.out _).mono ?_; rintro e w' ⟨rfl, rfl⟩)
  go_returns
  exact ⟨errV_eq rfl 6, by go_grown⟩

set_option maxHeartbeats 2000000 in
set_option maxRecDepth 100000 in
theorem decode_empty (s : ByteArray) (k : Nat) (w : World) (hs : s.size ≤ maxLen) (hlen : k + 4 ≤ s.size) (hR : ∀ w, Calls Tryz.prog 215 #[.string s, .int .i64 1024] w fun e w' => e = .returned (.tuple #[.string ByteArray.empty, .int .i64 k, .int .i64 0]) ∧ w = w') :
    Calls Tryz.prog 172 #[.string s] w fun e w' => e = .returned (ErrV 7) ∧ Below w.heap.size w w' := by
  have HR := Lib.hid hR; clear hR
  unfold maxLen at hs
  have i0 : (0 : Int) ≤ (k : Int) := by omega
  have i1 : (k : Int) < (s.size : Int) := by omega
  have i2 : (k : Int) + 1 < (s.size : Int) := by omega
  have i3 : (k : Int) + 2 < (s.size : Int) := by omega
  have i4 : (k : Int) + 3 < (s.size : Int) := by omega
  have w1 : IntKind.i64.wrap ((k : Int) + 1) = (k : Int) + 1 := IntWalk.i64_in _ (by omega)
  have v1 : (0 : Int) ≤ (k : Int) + 1 := by omega
  have u1 : ((k : Int) + 1).toNat = k + 1 := by omega
  have w2 : IntKind.i64.wrap ((k : Int) + 2) = (k : Int) + 2 := IntWalk.i64_in _ (by omega)
  have v2 : (0 : Int) ≤ (k : Int) + 2 := by omega
  have u2 : ((k : Int) + 2).toNat = k + 2 := by omega
  have w3 : IntKind.i64.wrap ((k : Int) + 3) = (k : Int) + 3 := IntWalk.i64_in _ (by omega)
  have v3 : (0 : Int) ≤ (k : Int) + 3 := by omega
  have u3 : ((k : Int) + 3).toNat = k + 3 := by omega
  have HN := Lib.hid (num4_bits s[k] s[k + 1] s[k + 2] s[k + 3])
  generalize num4 s[k] s[k + 1] s[k + 2] s[k + 3] = N at HN
  go_enter Tryz.func172, Tryz.ntmps172
  go_wp2_with (go_at_call 215; refine (HR.out _).mono ?_; rintro e w' ⟨rfl, rfl⟩)
  go_quiet (fail)
  rw [HN.out]
  clear HN
  go_wp2_with fail
  go_returns
  exact ⟨errV_eq rfl 7, by go_grown; exact below_drewN (by go_grown) _⟩

theorem decV_zero (n : Nat) : decV (Rc.zero, 0, n) = ErrV n := rfl

theorem decode_any (s : ByteArray) (w : World) (hs : s.size ≤ maxLen) (hm : ML w) :
    Calls Tryz.prog 172 #[.string s] w fun e w' => e = .returned (decV (decL s.data.toList)) ∧ Below w.heap.size w w' := by
  have hl : s.data.toList.length = s.size := by simp
  have hR := fun w => readText_any s 1024 w hs
  rcases rdT_cases s.data.toList 1024 with ⟨t, k, e, h1, h2, h3, h4, h5⟩ | e | e
  · rw [e] at hR
    rw [hl] at h3
    have hR' : ∀ w, Calls Tryz.prog 215 #[.string s, .int .i64 1024] w fun e w' => e = .returned (.tuple #[.string ⟨t.toArray⟩, .int .i64 k, .int .i64 0]) ∧ w = w' := hR
    by_cases hlen : k + 4 ≤ s.size
    · rw [decL_body e (by omega)]
      by_cases ht : t = []
      · subst ht
        refine (decode_empty s k w hs hlen hR').mono fun e w' ⟨a, b⟩ => ⟨?_, b⟩
        rw [a, ← decV_zero]
        unfold bodyV
        split <;> rfl
      · have hb2 : (⟨t.toArray⟩ : ByteArray).size ≤ 1024 := by rw [size_list]; omega
        have hb3 : 0 < (⟨t.toArray⟩ : ByteArray).size := by rw [size_list]; exact List.length_pos_iff.2 ht
        by_cases hq : (s.data.toList.drop k).take 4 = sum4 t
        · exact decode_good s ⟨t.toArray⟩ k w hs hm hR' hq hb2 hb3 hlen
        · exact decode_wrong s ⟨t.toArray⟩ k w hs hm hR' hq hb2 hb3 hlen
    · have hd : decL s.data.toList = (Rc.zero, 0, 6) := by
        unfold decL
        rw [e]
        simp only [ne_eq, not_true_eq_false, if_false]
        rw [if_pos (by omega)]
      rw [hd]
      exact decode_short s ⟨t.toArray⟩ k w hs h3 (by omega) hR'
  · rw [e] at hR
    have hd : decL s.data.toList = (Rc.zero, 0, 6) := by unfold decL; rw [e]; rfl
    rw [hd]
    exact decode_err s 6 (by decide) w hR
  · rw [e] at hR
    have hd : decL s.data.toList = (Rc.zero, 0, 7) := by unfold decL; rw [e]; rfl
    rw [hd]
    exact decode_err s 7 (by decide) w hR
end Go.Proofs.YtbgchhgdlceceaaGreatDoor.Rec

namespace Go.Proofs.YtbgchhgdlceceaaGreatDoor.Log
open Go.RowKit Heap
open Subj (ML)
open Rec (Rc decL decV decode_any)
open Sto (recsV recsV_append recC parts sixC info_rec news_rec)

theorem decL_size {s : List UInt8} (h : (decL s).2.2 = 0) : 4 ≤ (decL s).2.1 ∧ (decL s).2.1 ≤ s.length := by
  unfold decL at h ⊢
  split
  · rename_i h1; rw [if_pos h1] at h; exact absurd h h1
  · rename_i h1
    rw [if_neg h1] at h
    split
    · rename_i h2; rw [if_pos h2] at h; cases h
    · rename_i h2
      rw [if_neg h2] at h
      split
      · rename_i h3; rw [h3] at h; cases h
      · rename_i k rest h3
        rw [h3] at h
        simp only at h
        split
        · rename_i h4; rw [if_pos h4] at h; cases h
        · rename_i h4
          rw [if_neg h4] at h
          unfold Rec.bodyR at h ⊢
          split
          · simp only; omega
          · rename_i h5; rw [if_neg h5] at h; cases h

theorem scanF_fuel : ∀ (f : Nat) (s : List UInt8), s.length ≤ f → scanF f s = scanF s.length s
  | 0, s, h => by
    have e : s = [] := List.eq_nil_of_length_eq_zero (by omega)
    subst e; rfl
  | f + 1, s, h => by
    cases s with
    | nil => rfl
    | cons b r =>
      show scanF (f + 1) (b :: r) = scanF (r.length + 1) (b :: r)
      unfold scanF
      rw [if_neg (show ¬ (b :: r = []) by simp), if_neg (show ¬ (b :: r = []) by simp)]
      by_cases he : (decL (b :: r)).2.2 = 0
      · rw [if_neg (not_not_intro he), if_neg (not_not_intro he)]
        have hz := decL_size he
        have hl : ((b :: r).drop (decL (b :: r)).2.1).length ≤ r.length := by rw [List.length_drop, List.length_cons]; omega
        rw [scanF_fuel f _ (by rw [List.length_cons] at h; omega), ← scanF_fuel r.length _ hl]
      · rw [if_pos he, if_pos he]
termination_by f => f

theorem scan_nil : scan [] = ([], 0) := rfl

theorem scan_bad {s : List UInt8} (h : (decL s).2.2 ≠ 0) : scan s = ([], 0) := by
  unfold scan
  cases s with
  | nil => rfl
  | cons b r =>
    show scanF (r.length + 1) (b :: r) = _
    unfold scanF
    rw [if_neg (show ¬ (b :: r = []) by simp), if_pos h]

theorem scan_step {s : List UInt8} (hs : s ≠ []) (h : (decL s).2.2 = 0) : scan s = ((decL s).1 :: (scan (s.drop (decL s).2.1)).1, (decL s).2.1 + (scan (s.drop (decL s).2.1)).2) := by
  unfold scan
  cases s with
  | nil => exact absurd rfl hs
  | cons b r =>
    have hz := decL_size h
    have e : scanF (b :: r).length (b :: r) = _ := show scanF (r.length + 1) (b :: r) = _ by
      unfold scanF
      rw [if_neg (show ¬ (b :: r = []) by simp), if_neg (not_not_intro h)]
    rw [e, scanF_fuel r.length _ (by rw [List.length_drop, List.length_cons]; omega)]

/-- The scan, as far as it has come. -/
def ScanAt (S : List UInt8) (A : List Rc) (a : Nat) : Prop := scan S = (A ++ (scan (S.drop a)).1, a + (scan (S.drop a)).2) ∧ a ≤ S.length ∧ A.length * 4 ≤ a

theorem ScanAt.zero (S : List UInt8) : ScanAt S [] 0 := ⟨by simp, Nat.zero_le _, by simp⟩

theorem ScanAt.next {S : List UInt8} {A : List Rc} {a : Nat} (h : ScanAt S A a) (ha : a < S.length) (he : (decL (S.drop a)).2.2 = 0) : ScanAt S (A ++ [(decL (S.drop a)).1]) (a + (decL (S.drop a)).2.1) := by
  have hz := decL_size he
  rw [List.length_drop] at hz
  have hne : S.drop a ≠ [] := fun e => by have := congrArg List.length e; rw [List.length_drop, List.length_nil] at this; omega
  refine ⟨?_, by omega, by rw [List.length_append, List.length_singleton]; have := h.2.2; omega⟩
  rw [h.1, scan_step hne he, List.drop_drop]
  simp only [List.append_assoc, List.singleton_append, Nat.add_assoc]

theorem ScanAt.end_ {S : List UInt8} {A : List Rc} {a : Nat} (h : ScanAt S A a) (he : a = S.length ∨ (decL (S.drop a)).2.2 ≠ 0) : scan S = (A, a) := by
  have : scan (S.drop a) = ([], 0) := by
    rcases he with rfl | he
    · rw [List.drop_length]; rfl
    · exact scan_bad he
  rw [h.1, this]; simp

/-- Records of one's own, and how many bytes. -/
def ScanPost (w : World) (o : List Rc × Nat) (e : Ending) (w' : World) : Prop :=
  ∃ v, e = .returned (.tuple #[v, .int .i64 (o.2 : Nat)]) ∧ Row w' 33 6 v o.1.length (recsV o.1) ∧ (∀ k, own v k → w.heap.size ≤ k) ∧ Below w.heap.size w w'

section
variable {w : World}

set_option maxHeartbeats 4000000 in
set_option maxRecDepth 100000 in
theorem scan_any (s : ByteArray) (hs : s.size ≤ 1048576) (hm : ML w) : Calls Tryz.prog 109 #[.string s] w (ScanPost w (scan s.data.toList)) := by
  have hsl : s.data.toList.length = s.size := Array.length_toList
  have HSL := Lib.hid hsl; have HML := Lib.hid hm
  obtain ⟨O, hO⟩ : ∃ O, scan s.data.toList = O := ⟨_, rfl⟩
  rw [hO]
  have HO := Lib.hid hO
  clear hO hm hsl
  obtain ⟨i0, hi, hz0, hz1, hz2⟩ := info_parts info_rec
  go_enter Tryz.func109, Tryz.ntmps109
  go_wp2_with fail
  go_loopw [4, 5] (fun o a wr => ∃ (A : List Rc) (k : Nat), a = .int .i64 k ∧ k ≤ s.size ∧ Hid (ScanAt s.data.toList A k) ∧ Hid (Row wr 33 6 o A.length (recsV A) ∧ (∀ j, own o j → w.heap.size ≤ j) ∧ Below w.heap.size w wr)) (fun _ a _ => s.size - (intOf a).toNat)
  case atStart => exact ⟨[], 0, rfl, Nat.zero_le _, Lib.hid (ScanAt.zero _), Lib.hid ⟨Row.nil _ _ _, fun k hk => by simp [own, Value.ownBlock] at hk, Below.refl _ _⟩⟩
  case round =>
    obtain ⟨A, k, rfl, hk, HS, HR⟩ := hrel
    obtain ⟨hr, ho, hb⟩ := HR.out
    obtain ⟨n, hn⟩ : ∃ n, A.length = n := ⟨_, rfl⟩
    have HN := Lib.hid hn
    have hn4 : n * 4 ≤ k := by rw [← hn]; exact HS.out.2.2
    rw [hn] at hr
    obtain ⟨va, vc, rfl⟩ := hr.slice
    by_cases hlt : k < s.size
    · have hltz : (k : Int) < s.size := by omega
      obtain ⟨T, hT⟩ : ∃ T : ByteArray, s.extract k s.size = T := ⟨_, rfl⟩
      have hTl : T.data.toList = s.data.toList.drop k := by
        rw [← hT, ByteArray.data_extract, Array.toList_extract]
        simp
        exact List.take_of_length_le (by simp)
      have hTs : T.size ≤ s.size := by
        have h1 : T.data.toList.length = T.size := Array.length_toList
        rw [← h1, hTl, List.length_drop, HSL.out]; omega
      have hdc := decode_any T wr (by unfold maxLen; omega) (HML.out.below hb)
      obtain ⟨x, hx⟩ : ∃ x, decL T.data.toList = x := ⟨_, rfl⟩
      rw [hx] at hdc
      have hxd : decL (s.data.toList.drop k) = x := by rw [← hTl]; exact hx
      obtain ⟨r, nb, er⟩ := x
      obtain ⟨sb, hd, d, hpp⟩ := parts r
      unfold decV at hdc
      simp only at hdc
      rw [hpp.s1, hpp.h1, hpp.d1] at hdc
      have HDC := Lib.hid hdc; have HXD := Lib.hid hxd; have HTE := Lib.hid hT; have HPP := Lib.hid hpp
      have HRW := Lib.hid hr; have HO1 := Lib.hid ho; have HB := Lib.hid hb
      clear hdc hx hxd hTl hTs hpp hr ho hb HR hn
      go_wp2_with fail
      refine HDC.out.mono ?_
      rintro e w1 ⟨rfl, hb1⟩
      obtain ⟨w2, hw2⟩ : ∃ w2, w2 = w1.alloc (.cells #[.int .i64 r.kind, .int .i64 r.seq, .int .i64 r.time, .string sb, .string hd, .string d] 33) := ⟨_, rfl⟩
      have hb2 : Below w1.heap.size w1 w2 := by rw [hw2]; exact (Below.refl _ _).alloc (Nat.le_refl _) _
      have he2 : w2.heap[w1.heap.size]? = some (.cells #[.int .i64 r.kind, .int .i64 r.seq, .int .i64 r.time, .string sb, .string hd, .string d] 33 (0, 0)) := by rw [hw2]; exact heap_alloc_new w1 _
      obtain ⟨bx, hbx⟩ : ∃ bx, w1.heap.size = bx := ⟨_, rfl⟩
      rw [hbx] at he2
      have hbb := hb1.trans (hb2.mono hb1.size)
      have HRW2 := Lib.hid (HRW.out.kept (w' := w2) fun j _ hj => hbb.block j hj)
      have HB2 := Lib.hid (HB.out.trans (hbb.mono HB.out.size))
      have HBX := Lib.hid hbx
      obtain ⟨q0, q1, q2, q3, q4, q5⟩ := sixC he2
      clear hb1 hb2 he2 hbx hbb HDC HRW HB
      go_upto_region 5 with fail
      rw [← hw2, HBX.out]
      clear hw2
      by_cases her : er = 0
      · subst her
        have hez : (decL (s.data.toList.drop k)).2.2 = 0 := by rw [HXD.out]
        have hnx := HS.out.next (by rw [HSL.out]; exact hlt) hez
        rw [HXD.out] at hnx
        simp only at hnx
        have hle := hnx.2.1
        rw [HSL.out] at hle
        have hz4 := (decL_size hez).1
        rw [HXD.out] at hz4
        simp only at hz4
        have HNX := Lib.hid hnx
        clear hnx hez
        go_wp2_with (at_builtin; refine Heap.wpList_append_row _ rfl (.tmp 23) (.tmp 25) 25 rfl 33 i0 _ 6 72 Tryz.underlying25 hi hz0 hz1 hz2 rfl (by decide) _ n _ rfl (HRW2.out.kept (fun k _ hk => Below.heap_alloc w2 _ _ hk)) ⟨w2.heap.size, 0, none⟩ 1 1 [.int .i64 r.kind, .int .i64 r.seq, .int .i64 r.time, .string sb, .string hd, .string d] rfl rfl (news_rec w2 _ _ _ _ _ _ _) (by simp [Value.oneCell']) (by unfold maxLen; omega) (by omega) ?_)
        intro v2 w5 r5 t5 o5
        have hal : Below w2.heap.size w2 (w2.alloc (.cells #[.int .i64 r.kind, .int .i64 r.seq, .int .i64 r.time, .string sb, .string hd, .string d] 33)) := (Below.refl _ _).alloc (Nat.le_refl _) _
        have HF := Lib.hid (show Row w5 33 6 v2 (A ++ [r]).length (recsV (A ++ [r])) ∧ (∀ j, own v2 j → w.heap.size ≤ j) ∧ Below w.heap.size w w5 from by
          have hbz := HB2.out.size
          refine ⟨?_, fun j hj => ?_, (HB2.out.trans (hal.mono hbz)).trans (t5.below (Nat.le_trans hbz hal.size) fun k hk => HO1.out k hk)⟩
          · rw [List.length_append, List.length_singleton, HN.out, recsV_append, show recsV [r] = [.int .i64 r.kind, .int .i64 r.seq, .int .i64 r.time, .string sb, .string hd, .string d] from by rw [← HPP.out.s1, ← HPP.out.h1, ← HPP.out.d1]; rfl]
            exact r5
          · rcases o5 j hj with h | h
            · exact HO1.out j h
            · have := hal.size; omega)
        clear r5 t5 o5 hal q0 q1 q2 q3 q4 q5
        go_wp2_with fail
        exact ⟨⟨A ++ [r], k + nb, by go_num, hle, HNX, HF⟩, by simp [intOf]; omega⟩
      · have he0 : ((er : Int) != 0) = true := by simpa using her
        have hend := HS.out.end_ (.inr (by rw [HXD.out]; exact her))
        rw [HO.out] at hend
        subst hend
        have HF := Lib.hid (show ScanPost w (A, k) (.returned (.tuple #[.slice va n vc, .int .i64 (k : Nat)])) w2 from ⟨_, rfl, by rw [HN.out]; exact HRW2.out, HO1.out, HB2.out⟩)
        clear her
        go_wp2_with fail
        go_ret2
        exact HF.out
    · have hltz : ¬ (k : Int) < s.size := by omega
      have hend := HS.out.end_ (.inl (by rw [HSL.out]; omega))
      rw [HO.out] at hend
      subst hend
      have HF := Lib.hid (show ScanPost w (A, k) (.returned (.tuple #[.slice va n vc, .int .i64 (k : Nat)])) wr from ⟨_, rfl, by rw [HN.out]; exact hr, ho, hb⟩)
      clear hr ho hb
      go_wp2_with fail
      go_ret2
      exact HF.out
end
end Go.Proofs.YtbgchhgdlceceaaGreatDoor.Log

namespace Go.Proofs.YtbgchhgdlceceaaGreatDoor.Dsk
open Go.RowKit Go.Maps Heap

/-- How a pointer to a file reads: as the number of its block. -/
def ptrElem : Value → Option (DataW Unit × List MemPlace)
  | .pointer (some ⟨b, 0, none⟩) => some (.lit (.int .i64 b), [])
  | .pointer none => some (.lit (.bool false), [])
  | _ => none

theorem ptrElem_inv {v : Value} {b : Nat} {ps : List MemPlace} (h : ptrElem v = some (.lit (.int .i64 b), ps)) : v = .pointer (some ⟨b, 0, none⟩) := by
  unfold ptrElem at h
  split at h
  · rename_i b'
    simp only [Option.some.injEq, Prod.mk.injEq, DataW.lit.injEq, Lit.int.injEq, true_and] at h
    have : b' = b := by omega
    rw [this]
  · simp at h
  · cases h

theorem ptrElem_any {v : Value} {y : DataW Unit × List MemPlace} (h : ptrElem v = some y) : ∃ c : Option Nat, v = .pointer (c.map fun b => ⟨b, 0, none⟩) := by
  unfold ptrElem at h
  split at h
  · rename_i b; exact ⟨some b, rfl⟩
  · exact ⟨none, rfl⟩
  · cases h

theorem keyLaw : Keyed Tryz.prog 3 := int_keyed Tryz.underlying3
theorem zeroP (w : World) : (zeroValue 204).run Tryz.prog w = .ok (.pointer none) w := by kernel_rfl

theorem wf64 {n : Int} (h : -9223372036854775808 ≤ n) (h2 : n ≤ 9223372036854775807) : (Lit.int .i64 n).wf = true := WalkArith.wf_i64 ⟨h, h2⟩

theorem key64 {n : Int} (h : -9223372036854775808 ≤ n ∧ n ≤ 9223372036854775807) : keyOf Tryz.prog 3 (.int .i64 n) = some (.int .i64 n) := keyOf_int_mk Tryz.underlying3 (wf64 h.1 h.2)

theorem ownsMap_of_block {w w' : World} {b n : Nat} {X : DataW Unit} (h : w.ownsMap Tryz.prog 3 ptrElem b n X) (he : w'.heap[b]? = w.heap[b]?) : w'.ownsMap Tryz.prog 3 ptrElem b n X := by
  obtain ⟨es, clock, hb, r⟩ := h
  exact ⟨es, clock, he.trans hb, r⟩

structure DM (F : Nat → Prop) (D M : Nat) (β : Int → Nat) (X : DataW Unit) (room : Int) (A : List FileP) (w : World) : Prop where
  cells : w.heap[D]? = some (.cells #[.int .i64 room, .int .i64 (total A : Nat), .map (some M)] 189 (0, 0))
  own : w.ownsMap Tryz.prog 3 ptrElem M A.length X
  size : Maps.size X = A.length
  has : ∀ k : Int, Maps.has X (.int .i64 k) = (getF A k).isSome
  at_ : ∀ p ∈ A, ∀ z, X.atKey (.int .i64 p.n) z = .lit (.int .i64 (β p.n : Nat))
  files : ∀ p ∈ A, w.heap[β p.n]? = some (.cells #[.string ⟨p.text.toArray⟩, .int .i64 (p.sure : Nat)] 206 (0, 0))
  inj : ∀ p ∈ A, ∀ q ∈ A, β p.n = β q.n → p.n = q.n
  fD : F D
  fM : F M
  fF : ∀ p ∈ A, F (β p.n)

namespace DM
variable {F : Nat → Prop} {D M : Nat} {β : Int → Nat} {X : DataW Unit} {room : Int} {A : List FileP} {w w' : World}

theorem mono (h : DM F D M β X room A w) {G : Nat → Prop} (hG : ∀ k, F k → G k) : DM G D M β X room A w :=
  { h with fD := hG _ h.fD, fM := hG _ h.fM, fF := fun p hp => hG _ (h.fF p hp) }

theorem mapBlk (h : DM F D M β X room A w) : ∃ es c, w.heap[M]? = some (.map es c) := by
  obtain ⟨es, c, hb, _⟩ := h.own
  exact ⟨es, c, hb⟩

theorem neDM (h : DM F D M β X room A w) : D ≠ M := fun e => by
  obtain ⟨es, c, hb⟩ := h.mapBlk
  have := h.cells
  rw [e, hb] at this; cases this

theorem neDF (h : DM F D M β X room A w) {p : FileP} (hp : p ∈ A) : D ≠ β p.n := fun e => by
  have h1 := h.cells
  have h2 := h.files p hp
  rw [← e, h1] at h2
  simp at h2

theorem neMF (h : DM F D M β X room A w) {p : FileP} (hp : p ∈ A) : M ≠ β p.n := fun e => by
  obtain ⟨es, c, hb⟩ := h.mapBlk
  have h2 := h.files p hp
  rw [← e, hb] at h2; cases h2

theorem ltD (h : DM F D M β X room A w) : D < w.heap.size := heap_lt h.cells
theorem ltM (h : DM F D M β X room A w) : M < w.heap.size := by obtain ⟨es, c, hb⟩ := h.mapBlk; exact heap_lt hb
theorem ltF (h : DM F D M β X room A w) {p : FileP} (hp : p ∈ A) : β p.n < w.heap.size := heap_lt (h.files p hp)

/-- The disk stands while others are turned. -/
theorem kept (h : DM F D M β X room A w) (hs : Same F w w') : DM F D M β X room A w' :=
  { h with
    cells := (hs D h.fD h.ltD).trans h.cells
    own := ownsMap_of_block h.own (hs M h.fM h.ltM)
    files := fun p hp => (hs _ (h.fF p hp) (h.ltF hp)).trans (h.files p hp) }

/-- A file that is there is turned. -/
theorem set (h : DM F D M β X room A w) (hr : RightD room A) {p q : FileP} (hp : getF A q.n = some p) (ht : Heap.Touch (fun k => k = D ∨ k = β q.n) w w')
    (hD : w'.heap[D]? = some (.cells #[.int .i64 room, .int .i64 (total (setF A q) : Nat), .map (some M)] 189 (0, 0)))
    (hB : w'.heap[β q.n]? = some (.cells #[.string ⟨q.text.toArray⟩, .int .i64 (q.sure : Nat)] 206 (0, 0))) : DM F D M β X room (setF A q) w' := by
  obtain ⟨hpn, hpm⟩ := getF_n hp
  have hM := ht.block M h.ltM (by rintro (e | e); exact h.neDM e.symm; exact h.neMF hpm (by rw [hpn]; exact e))
  refine ⟨hD, ?_, ?_, fun k => ?_, fun x hx z => ?_, fun x hx => ?_, fun x hx y hy e => ?_, h.fD, h.fM, fun x hx => ?_⟩
  · rw [len_setF]; exact ownsMap_of_block h.own hM
  · rw [len_setF]; exact h.size
  · rw [h.has, getF_setF]
    by_cases e : k = q.n
    · rw [if_pos e, e, hp]; rfl
    · rw [if_neg e]
  · rcases mem_setF hr.sorted hx with rfl | ⟨hx, _⟩
    · rw [← hpn]; exact h.at_ p hpm z
    · exact h.at_ x hx z
  · rcases mem_setF hr.sorted hx with rfl | ⟨hx, hne⟩
    · exact hB
    · rw [ht.block _ (h.ltF hx) (by
        rintro (e | e)
        · exact h.neDF hx e.symm
        · exact hne ((h.inj x hx p hpm (by rw [hpn]; exact e)).trans hpn))]
      exact h.files x hx
  · have hx' : ∃ x' ∈ A, x'.n = x.n := by rcases mem_setF hr.sorted hx with rfl | ⟨hx, _⟩; exact ⟨p, hpm, hpn⟩; exact ⟨x, hx, rfl⟩
    have hy' : ∃ y' ∈ A, y'.n = y.n := by rcases mem_setF hr.sorted hy with rfl | ⟨hy, _⟩; exact ⟨p, hpm, hpn⟩; exact ⟨y, hy, rfl⟩
    obtain ⟨x', hx', ex⟩ := hx'
    obtain ⟨y', hy', ey⟩ := hy'
    rw [← ex, ← ey] at e ⊢
    exact h.inj x' hx' y' hy' e
  · rcases mem_setF hr.sorted hx with rfl | ⟨hx, _⟩
    · rw [← hpn]; exact h.fF p hpm
    · exact h.fF x hx

/-- A file is taken away. -/
theorem del (h : DM F D M β X room A w) (hr : RightD room A) {p : FileP} {n : Int} (hp : getF A n = some p) (ht : Heap.Touch (fun k => k = D ∨ k = M) w w')
    (hD : w'.heap[D]? = some (.cells #[.int .i64 room, .int .i64 (total (delF A n) : Nat), .map (some M)] 189 (0, 0)))
    (hO : w'.ownsMap Tryz.prog 3 ptrElem M A.length (X.del (.int .i64 n))) : DM F D M β (X.del (.int .i64 n)) room (delF A n) w' := by
  have htidy := h.own.tidy keyLaw
  have hhas : Maps.has X (.int .i64 n) = true := by rw [h.has, hp]; rfl
  have hsz : Maps.size (X.del (.int .i64 n)) = (delF A n).length := by
    have h1 := Maps.size_del (k := .int .i64 n) htidy
    rw [hhas, if_pos rfl, h.size] at h1
    have h2 := len_delF hr.sorted hp
    omega
  have hsub : ∀ x ∈ delF A n, x ∈ A ∧ x.n ≠ n := fun x hx => (mem_delF hr.sorted).1 hx
  refine ⟨hD, ?_, hsz, fun k => ?_, fun x hx z => ?_, fun x hx => ?_, fun x hx y hy e => h.inj x (hsub x hx).1 y (hsub y hy).1 e, h.fD, h.fM, fun x hx => h.fF x (hsub x hx).1⟩
  · rw [← hsz]
    obtain ⟨es, clock, hb, F', _, hX⟩ := hO
    exact ⟨es, clock, hb, F', by rw [hX]; simp [Maps.size, length_sorted], hX⟩
  · rw [getF_delF hr.sorted]
    by_cases e : k = n
    · rw [if_pos e, e, Maps.has_del_same]; rfl
    · rw [if_neg e, Maps.has_del_other (by intro c; simp only [Lit.int.injEq, true_and] at c; exact e c), h.has]
  · obtain ⟨hx, e⟩ := hsub x hx
    rw [Maps.atKey_del_other (by intro c; simp only [Lit.int.injEq, true_and] at c; exact e c)]
    exact h.at_ x hx z
  · obtain ⟨hx, e⟩ := hsub x hx
    rw [ht.block _ (h.ltF hx) (by rintro (e | e); exact h.neDF hx e.symm; exact h.neMF hx e.symm)]
    exact h.files x hx
end DM

/-- The disk at block D, of the blocks F. -/
structure DiskAt (W : World) (F : Nat → Prop) (D : Nat) (room : Int) (A : List FileP) (w : World) : Prop where
  right : RightD room A
  below : Below W.heap.size W w
  newF : ∀ k, F k → W.heap.size ≤ k
  mem : ∃ M β X, DM F D M β X room A w

/-- What has come to be since w. -/
abbrev Grow (F : Nat → Prop) (w : World) : Nat → Prop := fun k => F k ∨ w.heap.size ≤ k

/-! ### a look-up -/
section
variable {P : Program} (w : World) {ops : Array Oper} {rest : List Oper} {o : Oper} {a : Act} {Q : Exit → Act → World → Prop}

theorem look_hit (hg : o.guard = none) (m x : Operand) (hop : o.op = Op.lookup 187 m x true) (b n : Nat) (X : DataW Unit) (hm : a.eval m = .map (some b)) (hown : w.ownsMap Tryz.prog 3 ptrElem b n X)
    (k : Int) (hx : a.eval x = .int .i64 k) (hk : -9223372036854775808 ≤ k ∧ k ≤ 9223372036854775807) (B : Nat) (hhas : Maps.has X (.int .i64 k) = true) (hat : ∀ z, X.atKey (.int .i64 k) z = .lit (.int .i64 (B : Nat)))
    (hK : wpList Tryz.prog ops Q rest (a.put o.dst (.tuple #[.pointer (some ⟨B, 0, none⟩), .bool true])) w) : wpList Tryz.prog ops Q (o :: rest) a w :=
  wpList_lookup_own_ok w hg m x _ hop 3 204 keyLaw Tryz.underlying187 ptrElem (zeroP w) (.lit (.bool false)) [] rfl b n X hm hown _ _ hx (key64 hk) (fun v ps hv => by
    rw [hat] at hv
    obtain rfl := ptrElem_inv hv
    rw [hhas]; exact hK)

theorem look_miss (hg : o.guard = none) (m x : Operand) (hop : o.op = Op.lookup 187 m x true) (b n : Nat) (X : DataW Unit) (hm : a.eval m = .map (some b)) (hown : w.ownsMap Tryz.prog 3 ptrElem b n X)
    (k : Int) (hx : a.eval x = .int .i64 k) (hk : -9223372036854775808 ≤ k ∧ k ≤ 9223372036854775807) (hhas : Maps.has X (.int .i64 k) = false)
    (hK : wpList Tryz.prog ops Q rest (a.put o.dst (.tuple #[.pointer none, .bool false])) w) : wpList Tryz.prog ops Q (o :: rest) a w :=
  wpList_lookup_own_ok w hg m x _ hop 3 204 keyLaw Tryz.underlying187 ptrElem (zeroP w) (.lit (.bool false)) [] rfl b n X hm hown _ _ hx (key64 hk) (fun v ps hv => by
    rw [Maps.atKey_of_not_has hhas] at hv
    obtain rfl : v = .pointer none := by
      unfold ptrElem at hv
      split at hv
      · simp at hv
      · rfl
      · cases hv
    rw [hhas]; exact hK)

end

end Go.Proofs.YtbgchhgdlceceaaGreatDoor.Dsk

namespace Go.Proofs.YtbgchhgdlceceaaGreatDoor.Dsk
open Go.RowKit Go.Maps Heap

theorem twoC {B : Nat} {w : World} {t : TypeId} {a0 a1 : Value} (h : w.heap[B]? = some (.cells #[a0, a1] t (0, 0))) :
    w.cell? ⟨B, 0, none⟩ = some a0 ∧ w.cell? ⟨B, 1, none⟩ = some a1 ∧ ∀ j, w.frozen? ⟨B, j, none⟩ = false := by
  refine ⟨?_, ?_, fun j => ?_⟩
  · rw [cell_of_row w B 0 _ _ _ h]; rfl
  · rw [cell_of_row w B 1 _ _ _ h]; rfl
  · exact frozen_of_row w B j _ _ h

theorem threeC {B : Nat} {w : World} {t : TypeId} {a0 a1 a2 : Value} (h : w.heap[B]? = some (.cells #[a0, a1, a2] t (0, 0))) :
    w.cell? ⟨B, 0, none⟩ = some a0 ∧ w.cell? ⟨B, 1, none⟩ = some a1 ∧ w.cell? ⟨B, 2, none⟩ = some a2 ∧ ∀ j, w.frozen? ⟨B, j, none⟩ = false := by
  refine ⟨?_, ?_, ?_, fun j => ?_⟩
  · rw [cell_of_row w B 0 _ _ _ h]; rfl
  · rw [cell_of_row w B 1 _ _ _ h]; rfl
  · rw [cell_of_row w B 2 _ _ _ h]; rfl
  · exact frozen_of_row w B j _ _ h

section
variable {W w : World} {F : Nat → Prop} {D : Nat} {room : Int} {A : List FileP}

theorem read_any (h : DiskAt W F D room A w) (n : Int) (hk : -9223372036854775808 ≤ n ∧ n ≤ 9223372036854775807) : Calls Tryz.prog 108 #[.pointer (some ⟨D, 0, none⟩), .int .i64 n] w fun e w' => e = .returned (.tuple #[.string ⟨(readD A n).1.toArray⟩, .int .i64 ((readD A n).2 : Nat)]) ∧ w = w' := by
  obtain ⟨M, β, X, hm⟩ := h.mem
  obtain ⟨c0, c1, c2, cf⟩ := threeC hm.cells
  have hown := Lib.hid hm.own
  cases hg : getF A n with
  | some p =>
    have hhas : Maps.has X (.int .i64 n) = true := by rw [hm.has, hg]; rfl
    have hat : ∀ z, X.atKey (.int .i64 n) z = .lit (.int .i64 (β p.n : Nat)) := fun z => by have := hm.at_ p (getF_n hg).2 z; rw [(getF_n hg).1] at this; rw [(getF_n hg).1]; exact this
    obtain ⟨f0, f1, ff⟩ := twoC (hm.files p (getF_n hg).2)
    have hr : readD A n = (p.text, 0) := by unfold readD; rw [hg]
    rw [hr]
    have HHAS := Lib.hid hhas; have HAT := Lib.hid hat; have HK := Lib.hid hk
    clear hm h hg hr hhas hat hk
    go_enter Tryz.func108, Tryz.ntmps108
    go_wp2_with (first | (at_lookup; refine look_hit _ rfl _ _ rfl M _ X rfl hown.out n rfl HK.out (β p.n) HHAS.out HAT.out ?_))
    go_ret2
    exact ⟨rfl, rfl⟩
  | none =>
    have hhas : Maps.has X (.int .i64 n) = false := by rw [hm.has, hg]; rfl
    have hr : readD A n = ([], 4) := by unfold readD; rw [hg]
    rw [hr]
    have HHAS := Lib.hid hhas; have HK := Lib.hid hk
    clear hm h hg hr hhas hk
    go_enter Tryz.func108, Tryz.ntmps108
    go_wp2_with (first | (at_lookup; refine look_miss _ rfl _ _ rfl M _ X rfl hown.out n rfl HK.out HHAS.out ?_))
    go_ret2
    exact ⟨rfl, rfl⟩

/-- Of whatever two cells are written the disk's others stand. -/
theorem DiskAt.next {w' : World} {G : Nat → Prop} {A' : List FileP} (h : DiskAt W F D room A w) (hr : RightD room A') (ht : Heap.Touch F w w') (hG : ∀ k, G k → W.heap.size ≤ k) (hm : ∃ M β X, DM G D M β X room A' w') : DiskAt W G D room A' w' :=
  ⟨hr, h.below.trans (ht.below h.below.size h.newF), hG, hm⟩

theorem Grow.new (h : DiskAt W F D room A w) : ∀ k, Grow F w k → W.heap.size ≤ k := by
  rintro k (hk | hk)
  · exact h.newF k hk
  · exact Nat.le_trans h.below.size hk

/-- A disk of fewer blocks is one of more. -/
theorem DiskAt.mono {G : Nat → Prop} (h : DiskAt W F D room A w) (hG : ∀ k, F k → G k) (hn : ∀ k, G k → W.heap.size ≤ k) : DiskAt W G D room A w := by
  obtain ⟨M, β, X, hm⟩ := h.mem
  exact ⟨h.right, h.below, hn, M, β, X, hm.mono hG⟩

theorem DiskAt.kept {w' : World} (h : DiskAt W F D room A w) (hb : Below W.heap.size w w') (hs : Same F w w') : DiskAt W F D room A w' := by
  obtain ⟨M, β, X, hm⟩ := h.mem
  exact ⟨h.right, h.below.trans hb, h.newF, M, β, X, hm.kept hs⟩

end
end Go.Proofs.YtbgchhgdlceceaaGreatDoor.Dsk
