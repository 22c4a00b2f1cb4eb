/- Parts of the proof, joined: (*Log).Rewrite, walked.; (*Log).Rewrite, walked. -/
import Derived.Test.YtbgchhgdlceceaaGreatDoorLogPlaysUptoM20
import Derived.StillTailTactics
namespace Go.Proofs.YtbgchhgdlceceaaGreatDoor.Log
open Go.RowKit Heap Dsk
open Subj (ML)
open Rec (Rc recErr recA rcOf codedL ml_alloc)
open Sto (recsV RecsAt Fits parts sixC)

/-! what it computes -/
theorem errL_take {rs : List Rc} {k : Nat} {p : Rc} (hp : rs[k]? = some p) (h : errL (rs.take k) = 0) : errL (rs.take (k + 1)) = recErr p ∧ (recErr p ≠ 0 → errL rs = recErr p) := by
  induction rs generalizing k with
  | nil => simp at hp
  | cons a l ih =>
    cases k with
    | zero =>
      simp only [List.getElem?_cons_zero, Option.some.injEq] at hp
      subst hp
      constructor
      · simp only [List.take_succ_cons, List.take_zero, errL]
        split
        · rfl
        · rename_i e; omega
      · intro e; simp only [errL]; rw [if_pos e]
    | succ k =>
      simp only [List.getElem?_cons_succ] at hp
      simp only [List.take_succ_cons, errL] at h ⊢
      by_cases ha : recErr a ≠ 0
      · rw [if_pos ha] at h; exact absurd h ha
      · rw [if_neg ha] at h
        rw [if_neg ha, if_neg ha]
        exact ih hp h

theorem textsL_take {rs : List Rc} {k : Nat} {p : Rc} (hp : rs[k]? = some p) : textsL (rs.take (k + 1)) = textsL (rs.take k) ++ codedL p := by
  unfold textsL
  rw [List.take_add_one, hp]
  simp

theorem getF_above {A : List FileP} {n : Int} (h : ∀ x ∈ A, x.n < n) : getF A n = none := by
  cases h2 : getF A n with
  | none => rfl
  | some p =>
    obtain ⟨e1, e2⟩ := getF_n h2
    have := h p e2
    omega

theorem insF_above : ∀ {A : List FileP} (q : FileP), (∀ x ∈ A, x.n < q.n) → insF A q = A ++ [q]
  | [], _, _ => rfl
  | a :: r, q, h => by
    have h1 := h a (by simp)
    unfold insF
    rw [if_neg (by omega), insF_above q fun x hx => h x (List.mem_cons_of_mem _ hx)]
    rfl

theorem getF_last {A : List FileP} (p : FileP) (h : ∀ x ∈ A, x.n < p.n) : getF (A ++ [p]) p.n = some p := by
  induction A with
  | nil => simp [getF]
  | cons a r ih =>
    have h1 := h a (by simp)
    simp only [List.cons_append, getF]
    rw [if_neg (by omega)]
    exact ih fun x hx => h x (List.mem_cons_of_mem _ hx)

theorem setF_last : ∀ {A : List FileP} (p q : FileP), (∀ x ∈ A, x.n < q.n) → p.n = q.n → setF (A ++ [p]) q = A ++ [q]
  | [], p, q, _, e => by simp [setF, e]
  | a :: r, p, q, h, e => by
    have h1 := h a (by simp)
    simp only [List.cons_append, setF]
    rw [if_neg (by omega), setF_last p q (fun x hx => h x (List.mem_cons_of_mem _ hx)) e]

theorem last_top {A : List FileP} (h : Sorted A) : ∀ x ∈ A, x.n ≤ (lastD A).1 := fun x hx => by
  unfold lastD
  cases hl : A.getLast? with
  | none => rw [last_none hl] at hx; cases hx
  | some p =>
    simp only
    obtain ⟨hm, hpos, hg⟩ := last_some hl
    obtain ⟨i, hi, rfl⟩ := List.mem_iff_getElem.1 hx
    obtain ⟨hj, e⟩ := List.getElem?_eq_some_iff.1 hg
    by_cases hie : i = A.length - 1
    · subst hie; rw [e]; exact Int.le_refl _
    · have := List.pairwise_iff_getElem.1 h i (A.length - 1) hi hj (by omega)
      rw [e] at this; omega

/-- What stands while the old ones go. -/
theorem rem_old {A : List FileP} (q : FileP) (hs : Sorted A) (hq : ∀ x ∈ A, x.n < q.n) {k : Nat} {p : FileP} (hp : A[k]? = some p) : removeD (A.take (k + 1) ++ [q]) p.n = (A.take k ++ [q], 0) := by
  have e : A.take (k + 1) = A.take k ++ [p] := by rw [List.take_add_one, hp]; rfl
  have hlt : ∀ x ∈ A.take k, x.n < p.n := pre_ne hs hp
  have hne : ∀ x ∈ A.take k, x.n ≠ p.n := fun x hx => by have := hlt x hx; omega
  have hqp := hq p (List.mem_of_getElem? hp)
  have e2 : A.take (k + 1) ++ [q] = A.take k ++ p :: [q] := by rw [e]; simp
  rw [e2]
  have hg : getF (A.take k ++ p :: [q]) p.n = some p := by
    refine getF_mem ?_ (by simp)
    rw [← e2]
    unfold Sorted
    rw [List.pairwise_append]
    exact ⟨hs.sublist (List.take_sublist _ _), by simp, fun x hx y hy => by simp at hy; subst hy; exact hq x (List.mem_of_mem_take hx)⟩
  unfold removeD
  rw [hg]
  simp only
  rw [delF_mid _ _ _ hne]

theorem rew_app {room : Int} {A : List FileP} {T : List UInt8} (hs : Sorted A) (h : (appD room A ((lastD A).1 + 1) T).2 = 0) :
    (appD room A ((lastD A).1 + 1) T).1 = A ++ [⟨(lastD A).1 + 1, T, 0⟩] ∧ syncD (A ++ [⟨(lastD A).1 + 1, T, 0⟩]) ((lastD A).1 + 1) = (A ++ [⟨(lastD A).1 + 1, T, T.length⟩], 0) := by
  have ht := last_top hs
  have hlt : ∀ x ∈ A, x.n < (lastD A).1 + 1 := fun x hx => by have := ht x hx; omega
  generalize (lastD A).1 + 1 = n at *
  constructor
  · unfold appD at h ⊢
    rw [getF_above hlt] at h ⊢
    split
    · rename_i e; rw [if_pos e] at h; cases h
    · rename_i e
      rw [if_neg e] at h
      split
      · rename_i e2; rw [if_pos e2] at h; cases h
      · rename_i e2
        rw [if_neg e2] at h
        simp only at h ⊢
        split
        · rename_i e3; rw [if_pos e3] at h; cases h
        · exact insF_above ⟨n, T, 0⟩ hlt
  · unfold syncD
    rw [getF_last ⟨n, T, 0⟩ hlt]
    simp only
    rw [setF_last ⟨n, T, 0⟩ ⟨n, T, T.length⟩ hlt rfl]
end Go.Proofs.YtbgchhgdlceceaaGreatDoor.Log

namespace Go.Proofs.YtbgchhgdlceceaaGreatDoor.Log
open Go.RowKit Heap Dsk
open Subj (ML)
open Rec (Rc recErr recA rcOf codedL ml_alloc)
open Sto (recsV RecsAt Fits parts sixC)

section
variable {W w : World} {F : Nat → Prop} {D G : Nat} {room size : Int} {A : List FileP}

theorem textsL_len {rs : List Rc} (h : errL rs = 0) : (textsL rs).length ≤ 1037 * rs.length := by
  induction rs with
  | nil => simp [textsL]
  | cons a l ih =>
    simp only [errL] at h
    by_cases ha : recErr a ≠ 0
    · rw [if_pos ha] at h; exact absurd h ha
    · rw [if_neg ha] at h
      have h1 := ih h
      have h2 := codedL_len (r := a) (by omega)
      unfold textsL at h1 ⊢
      rw [List.flatMap_cons, List.length_append, List.length_cons]
      omega

theorem app_fail {room : Int} {A : List FileP} {n : Int} {T : List UInt8} (h : (appD room A n T).2 ≠ 0) : (appD room A n T).1 = A := by
  unfold appD at h ⊢
  split
  · rfl
  · rename_i e
    rw [if_neg e] at h
    split
    · rfl
    · rename_i e2
      rw [if_neg e2] at h
      split
      · rename_i p hp; rw [hp] at h; exact absurd rfl h
      · rename_i hp
        rw [hp] at h
        simp only at h
        split
        · rfl
        · rename_i e3; rw [if_neg e3] at h; exact absurd rfl h

/-- The first loop: the records' texts so far. -/
def R1 (w : World) (rs : List Rc) (k : Nat) (T : ByteArray) (wr : World) : Prop := errL (rs.take k) = 0 ∧ T.data.toList = textsL (rs.take k) ∧ Below w.heap.size w wr

/-- The second loop: the old blocks from the last one. -/
def R2 (W : World) (F : Nat → Prop) (D : Nat) (room : Int) (A : List FileP) (q : FileP) (nv : Value) (w1 : World) (k : Nat) (wr : World) : Prop :=
  DiskAt W F D room (A.take k ++ [q]) wr ∧ Row wr 3 1 nv A.length (numsV (A.map (·.n))) ∧ Heap.Touch F w1 wr

set_option maxHeartbeats 4000000 in
set_option maxRecDepth 100000 in
theorem rew_log {v : Value} {rs : List Rc} (hl : RecsAt w v rs) (hn : rs.length ≤ 100000) (hf : ∀ r ∈ rs, Fits r) (hD : DiskAt W F D room A w) (hm : ML W) (hG : LogAt D G size w) (hnF : ¬ F G) (hsz : 1 ≤ size ∧ size ≤ 4096) :
    Calls Tryz.prog 52 #[.pointer (some ⟨G, 0, none⟩), v] w (AddPost W F D room w (rewD room size A rs)) := by
  obtain ⟨n, hnL⟩ : ∃ n, rs.length = n := ⟨_, rfl⟩
  have HN := Lib.hid hnL
  obtain ⟨ao, cap, rfl, ha⟩ := hl
  have HL := Lib.hid (show RecsAt w (.slice ao rs.length cap) rs from ⟨ao, cap, rfl, ha⟩); have HF := Lib.hid hf; have HML := Lib.hid (hm.below hD.below)
  have HDD := Lib.hid hD; have HG := Lib.hid hG; have HNF := Lib.hid hnF
  rw [hnL] at hn ⊢
  have h0 := Lib.hid (show R1 w rs 0 ByteArray.empty w from ⟨rfl, rfl, Below.refl _ _⟩)
  clear ha hf hm hnL hD hG hnF
  go_enter Tryz.func52, Tryz.ntmps52
  go_wp2_with fail
  go_loopw [5, 17] (fun t i wr => ∃ (k : Nat) (T : ByteArray), k ≤ n ∧ i = .int .i64 k ∧ t = .string T ∧ Hid (R1 w rs k T wr)) (fun _ i _ => n - (intOf i).toNat)
  case atStart => exact ⟨0, _, Nat.zero_le _, rfl, rfl, h0⟩
  case round =>
    obtain ⟨k, T, hk, rfl, rfl, HR⟩ := hrel
    clear h0
    obtain ⟨he0, hT, hbw⟩ := HR.out
    have hTs : T.size = (textsL (rs.take k)).length := by rw [← hT]; show T.data.size = _; simp
    have hTl := textsL_len he0
    have hTl2 : T.size ≤ 1037 * 100000 := by
      rw [hTs]
      have : (rs.take k).length ≤ k := by simp; omega
      omega
    clear hTs hTl
    by_cases hlt : k < n
    · have hltz : (k : Int) < n := by omega
      obtain ⟨p, hp⟩ : ∃ p, rs[k]? = some p := ⟨_, List.getElem?_eq_getElem (by rw [HN.out]; exact hlt)⟩
      obtain ⟨hx1, hx2⟩ := errL_take hp he0
      have hlr := HL.out.below hbw (Nat.le_refl _)
      obtain ⟨ao', cap', hv, ha⟩ := hlr
      simp only [Value.slice.injEq, true_and] at hv
      obtain ⟨rfl, rfl⟩ := hv
      obtain ⟨g, off, rfl, hcs⟩ := ha (fun e => by rw [e] at hp; simp at hp)
      obtain ⟨m0, m1, m2, m3, m4, m5⟩ := hcs k p hp
      have hfp := HF.out p (List.mem_of_getElem? hp)
      have htx := textsL_take hp
      obtain ⟨s, h, d, hpp⟩ := parts p
      have hrc := hpp.rc
      rw [hpp.s1] at m3
      rw [hpp.h1] at m4
      rw [hpp.d1] at m5
      have hss : s.size ≤ 1048576 ∧ h.size ≤ 1048576 ∧ d.size ≤ 1048576 := by
        rw [hpp.s3, hpp.h3, hpp.d3]; have := hfp.1; have := hfp.2; have := hfp.3; omega
      obtain ⟨wa, hwa⟩ : ∃ wa, wa = wr.alloc (.cells #[.int .i64 p.kind, .int .i64 p.seq, .int .i64 p.time, .string s, .string h, .string d] 33) := ⟨_, rfl⟩
      have hba : Below wr.heap.size wr wa := by rw [hwa]; exact (Below.refl _ _).alloc (Nat.le_refl _) _
      have hea : wa.heap[wr.heap.size]? = some (.cells #[.int .i64 p.kind, .int .i64 p.seq, .int .i64 p.time, .string s, .string h, .string d] 33 (0, 0)) := by rw [hwa]; exact heap_alloc_new wr _
      obtain ⟨bx, hbx⟩ : ∃ bx, wr.heap.size = bx := ⟨_, rfl⟩
      rw [hbx] at hea
      obtain ⟨q0, q1, q2, q3, q4, q5⟩ := sixC hea
      have hbwa := hbw.trans (hba.mono hbw.size)
      have HBX := Lib.hid hbx; have HBW := Lib.hid hbwa
      have HMA := Lib.hid (HML.out.below hbwa)
      by_cases her : recErr p = 0
      · have hen := Rec.encode_ok p.kind p.seq p.time s h d wa hss.1 hss.2.1 hss.2.2 HMA.out (by rw [hrc]; exact her)
        rw [hrc] at hen
        have hcl := codedL_len her
        obtain ⟨E, hE⟩ : ∃ E : ByteArray, (⟨(codedL p).toArray⟩ : ByteArray) = E := ⟨_, rfl⟩
        have hEs : E.size = (codedL p).length := by rw [← hE]; show (codedL p).toArray.size = _; simp
        have hTE : (T ++ E).data.toList = textsL (rs.take (k + 1)) := by rw [htx, ← hT, ← hE]; simp
        rw [hE] at hen
        rw [← hEs] at hcl
        have hsum : ¬ 9223372036854775807 < T.size + E.size := by omega
        have HEN := Lib.hid hen; have HTE := Lib.hid hTE; have HE1 := Lib.hid (hx1.trans her)
        unfold recA at HEN
        clear hp hx1 hx2 ha hcs hfp htx hpp hrc hss hba hea hbx hbwa her hen hE hEs hTE he0 hT hbw HR
        go_upto_region 5 with fail
        rw [← hwa, HBX.out]
        clear hwa m0 m1 m2 m3 m4 m5
        go_wp2_with fail
        refine HEN.out.mono ?_
        rintro e w4 ⟨rfl, hb4⟩
        have HNX := Lib.hid (show R1 w rs (k + 1) (T ++ E) w4 from ⟨HE1.out, HTE.out, HBW.out.trans (hb4.mono HBW.out.size)⟩)
        clear hb4 HEN q0 q1 q2 q3 q4 q5
        go_wp2_with fail
        exact ⟨⟨k + 1, T ++ E, by omega, by go_num, rfl, HNX⟩, by simp [intOf]; omega⟩
      · have hen := Rec.encode_bad p.kind p.seq p.time s h d wa hss.1 hss.2.1 hss.2.2 HMA.out (by rw [hrc]; exact her)
        rw [hrc] at hen
        have hrw : rewD room size A rs = (A, recErr p) := by
          unfold rewD
          rw [if_pos (by rw [hx2 her]; exact her), hx2 her]
        rw [hrw]
        have HEN := Lib.hid hen
        generalize recErr p = C at *
        have hC : ¬ (C : Int) = 0 := by omega
        unfold recA at HEN
        clear hp hx1 hx2 ha hcs hfp htx hpp hrc hss hba hea hbx hbwa her hen he0 hT hbw HR hrw
        go_upto_region 5 with fail
        rw [← hwa, HBX.out]
        clear hwa m0 m1 m2 m3 m4 m5
        go_wp2_with fail
        refine HEN.out.mono ?_
        rintro e w4 ⟨rfl, hb4⟩
        have HB4 := Lib.hid (HBW.out.trans (hb4.mono HBW.out.size))
        clear hb4 HEN q0 q1 q2 q3 q4 q5
        go_wp2_with fail
        go_ret
        exact ⟨rfl, (DiskAt.low HDD.out HB4.out).mono (fun k hk => .inl hk) (Grow.new HDD.out), Heap.Touch.ofBelow HB4.out⟩
    · have hltz : ¬ (k : Int) < n := by omega
      obtain rfl : k = n := by omega
      rw [List.take_of_length_le (by rw [HN.out]; exact Nat.le_refl _)] at he0 hT
      have hTs : T.size = (textsL rs).length := by rw [← hT]; show T.data.size = _; simp
      obtain ⟨d0, d1, df⟩ := twoC (HG.out.below hbw)
      have HE0 := Lib.hid he0; have HT := Lib.hid hT; have HBW := Lib.hid hbw; have HTS := Lib.hid hTs
      clear he0 hT HR hbw hTs
      by_cases hfull : 1 < rs.length ∧ size < (textsL rs).length
      · have hf1 : (1 : Int) < (k : Nat) := by have := hfull.1; rw [HN.out] at this; omega
        have hf2 : size < (T.size : Nat) := by rw [HTS.out]; exact hfull.2
        have hrw : rewD room size A rs = (A, 8) := by unfold rewD; rw [if_neg (by rw [HE0.out]; simp), if_pos hfull]
        have HRW := Lib.hid hrw
        clear hfull hrw
        go_wp2_with fail
        go_ret
        rw [HRW.out]
        exact ⟨rfl, (DiskAt.low HDD.out HBW.out).mono (fun k hk => .inl hk) (Grow.new HDD.out), Heap.Touch.ofBelow HBW.out⟩
      · have hff : ¬ (1 : Int) < (k : Nat) ∨ ((1 : Int) < (k : Nat) ∧ ¬ size < (T.size : Nat)) := by
          rw [HTS.out]
          rw [HN.out] at hfull
          omega
        have hrw : rewD room size A rs = if (appD room A ((lastD A).1 + 1) (textsL rs)).2 ≠ 0 then (A, (appD room A ((lastD A).1 + 1) (textsL rs)).2) else ([⟨(lastD A).1 + 1, textsL rs, (textsL rs).length⟩], 0) := by
          unfold rewD; rw [if_neg (by rw [HE0.out]; simp), if_neg hfull]
        have HRW := Lib.hid hrw
        clear hfull hrw
        have hlm : -1 ≤ (lastD A).1 ∧ (lastD A).1 ≤ 1099511627776 := by
          unfold lastD
          cases hla : A.getLast? with
          | none => simp
          | some p =>
            have := HDD.out.right.num p (last_some hla).1
            simp only; omega
        have hra := rew_app (room := room) (A := A) (T := textsL rs) HDD.out.right.sorted
        have hfa := app_fail (room := room) (A := A) (n := (lastD A).1 + 1) (T := textsL rs)
        have htop := last_top HDD.out.right.sorted
        have hS1 : DiskAt W (fun k => F k ∧ k < w.heap.size) D room A wr := DiskAt.low HDD.out.shrink HBW.out
        have HLI := Lib.hid (list_any hS1)
        have HLA := Lib.hid fun (w' : World) (hb : Below wr.heap.size wr w') => last_any (DiskAt.low hS1 hb) ((HG.out.below HBW.out).below hb)
        have HAP := Lib.hid fun (w' : World) (hb : Below wr.heap.size wr w') => append_any (DiskAt.low hS1 hb) ((lastD A).1 + 1) T (by omega) (by omega)
        rw [HT.out] at HAP
        have HS1 := Lib.hid hS1
        have HRA := Lib.hid hra; have HFA := Lib.hid hfa; have HTOP := Lib.hid htop
        clear hra hfa htop hS1
        generalize (lastD A).1 = m at *
        generalize (lastD A).2 = m2 at *
        go_upto_region 10 with fail
        go_cut [44] from 33 to 44 (fun s44 wx => s44 = .bool false ∧ wr = wx)
        case first =>
          rcases hff with h1 | ⟨h1, h2⟩
          · go_wp2_with fail
            go_meet
            exact ⟨rfl, rfl⟩
          · go_wp2_with fail
            go_meet
            exact ⟨rfl, rfl⟩
        case rest =>
        obtain ⟨rfl, rfl⟩ := hcut
        clear hff
        go_wp2_with fail
        refine HLI.out.mono ?_
        rintro e w1 ⟨nv, rfl, hN⟩
        obtain ⟨a1, n1, hv⟩ := hN.2.1.slice
        obtain ⟨hNb, hNr, hNo⟩ := hN
        have hlenA : (A.map (·.n)).length = A.length := List.length_map _
        rw [hlenA] at hNr hv
        obtain ⟨L, hL⟩ : ∃ L, A.length = L := ⟨_, rfl⟩
        rw [hL] at hNr hv
        subst hv
        have hL20 : L ≤ 20 := by rw [← hL]; exact HDD.out.right.few
        have HLL := Lib.hid hL
        have HNR := Lib.hid hNr; have HNO := Lib.hid hNo; have HNB := Lib.hid hNb
        have hla1 := HLA.out w1 hNb
        have HLA1 := Lib.hid hla1
        clear hNb hNr hNo hlenA hL hla1 HLA HLI
        go_wp2_with fail
        refine HLA1.out.mono ?_
        rintro e w2 ⟨rfl, hb⟩
        have hb2 : Below wr.heap.size wr w2 := HNB.out.trans (hb.mono HNB.out.size)
        have hap := HAP.out w2 hb2
        obtain ⟨e0, e1, ef⟩ := twoC ((HG.out.below HBW.out).below hb2)
        have HB2 := Lib.hid hb2; have HB12 := Lib.hid hb; have HAP2 := Lib.hid hap
        clear hb hb2 hap HAP HLA1
        go_wp2_with fail
        refine HAP2.out.mono ?_
        rintro e w3 ⟨rfl, hd3, ht3⟩
        clear HAP2
        have hww2 : w.heap.size ≤ w2.heap.size := Nat.le_trans HBW.out.size HB2.out.size
        have hWw : W.heap.size ≤ w.heap.size := HDD.out.below.size
        have hgr : ∀ k, Grow (fun k => F k ∧ k < w.heap.size) w2 k → Grow F w k := fun k hk => by
          rcases hk with hk | hk
          · exact .inl hk.1
          · exact .inr (by omega)
        have ht02 : Heap.Touch F w w2 := (Heap.Touch.ofBelow HBW.out).after (Heap.Touch.ofBelow HB2.out)
        have ht03 : Heap.Touch F w w3 := ht02.after (ht3.mono fun k _ hk => hk.1)
        by_cases hok : (appD room A (m + 1) (textsL rs)).2 = 0
        · obtain ⟨hap1, hsy1⟩ := HRA.out hok
          rw [hap1] at hd3
          rw [hok]
          have hrw := HRW.out
          rw [if_neg (by rw [hok]; simp)] at hrw
          have hsy := sync_any hd3 (m + 1) (by omega)
          rw [hsy1] at hsy
          have hG3 : LogAt D G size w3 := (((HG.out.below HBW.out).below HB2.out)).touch ht3 fun e => HNF.out e.1
          obtain ⟨f0, f1, ff⟩ := twoC hG3
          have HG3 := Lib.hid hG3; have HSY := Lib.hid hsy; have HRW2 := Lib.hid hrw; have HT3 := Lib.hid ht3; have HT03 := Lib.hid ht03; have HGR := Lib.hid hgr
          obtain ⟨q, hq⟩ : ∃ q : FileP, (⟨m + 1, textsL rs, (textsL rs).length⟩ : FileP) = q := ⟨_, rfl⟩
          rw [hq] at HSY HRW2
          have hqn : q.n = m + 1 := by rw [← hq]
          have HQT := Lib.hid (show ∀ x ∈ A, x.n < q.n from fun x hx => by have := HTOP.out x hx; omega)
          clear hap1 hok hrw hsy1 hsy hG3 hd3 ht3 ht02 ht03 hgr hq hqn HRA HFA HRW HTOP
          go_wp2_with fail
          refine HSY.out.mono ?_
          rintro e w4 ⟨rfl, hd4, ht4⟩
          have HG4 := Lib.hid (HG3.out.touch ht4 fun e => by
            have h1 := heap_lt (show w2.heap[G]? = _ from (HG.out.below HBW.out).below HB2.out)
            rcases e with e | e
            · exact HNF.out e.1
            · omega)
          have HNL := Lib.hid (show ∀ j, own (.slice a1 L n1) j → ¬ Grow (fun k => F k ∧ k < w.heap.size) w2 j ∧ j < w2.heap.size from fun j hj => by
            have h1 := HNO.out j hj
            have h2 := HNR.out.lt j hj
            have h3 := HB12.out.size
            have h4 := HBW.out.size
            refine ⟨fun e => ?_, by omega⟩
            rcases e with e | e
            · have := e.2; omega
            · omega)
          have hr4 : Row w4 3 1 (.slice a1 L n1) L (numsV (A.map (·.n))) := by
            have hr2 : Row w2 3 1 (.slice a1 L n1) L (numsV (A.map (·.n))) := HNR.out.kept fun j _ hj => HB12.out.block j hj
            have hr3 : Row w3 3 1 (.slice a1 L n1) L (numsV (A.map (·.n))) := hr2.kept fun j hj hlt => HT3.out.block j hlt fun e => (HNL.out j hj).1 (.inl e)
            exact hr3.kept fun j hj hlt => ht4.block j hlt (HNL.out j hj).1
          have H40 := Lib.hid (show R2 W (Grow (fun k => F k ∧ k < w.heap.size) w2) D room A q (.slice a1 L n1) w4 L w4 from
            ⟨by rw [List.take_of_length_le (by rw [HLL.out]; exact Nat.le_refl _)]; exact hd4, by rw [HLL.out]; exact hr4, Heap.Touch.refl _ _⟩)
          have HT04 := Lib.hid (HT03.out.trans ht4 fun i hi e => by
            rcases e with e | e
            · exact e.1
            · omega)
          have hw24 : w2.heap.size ≤ w4.heap.size := Nat.le_trans HT3.out.size ht4.size
          clear hd4 ht4 hr4 HSY
          go_wp2_with fail
          go_loopw [14] (fun i wr => ∃ k : Nat, k ≤ L ∧ i = .int .i64 ((k : Int) - 1) ∧ Hid (R2 W (Grow (fun k => F k ∧ k < w.heap.size) w2) D room A q (.slice a1 L n1) w4 k wr)) (fun i _ => (intOf i + 1).toNat)
          case atStart => exact ⟨L, Nat.le_refl _, by go_num, H40⟩
          case round =>
            obtain ⟨k, hk, rfl, HR⟩ := hrel
            clear H40
            obtain ⟨hd, hnr, ht⟩ := HR.out
            rw [HLL.out] at hnr
            by_cases hk0 : k = 0
            · subst hk0
              rw [show (((0 : Nat) : Int) - 1) = -1 by omega]
              have hneg : ¬ (0 : Int) ≤ -1 := by omega
              have HF := Lib.hid (show AddPost W F D room w (rewD room size A rs) (.returned (.int .i64 0)) wr from by
                rw [HRW2.out]
                refine ⟨rfl, ?_, HT04.out.trans ht fun i hi e => by
                  rcases e with e | e
                  · exact e.1
                  · omega⟩
                have h2 : DiskAt W (Grow (fun k => F k ∧ k < w.heap.size) w2) D room [q] wr := by simpa using hd
                exact h2.mono HGR.out (Grow.new HDD.out))
              clear hd hnr ht HR
              go_wp2_with fail
              go_ret
              exact HF.out
            · obtain ⟨j, rfl⟩ : ∃ j, k = j + 1 := ⟨k - 1, by omega⟩
              rw [show (((j + 1 : Nat) : Int) - 1) = (j : Int) by omega]
              have hpos : (0 : Int) ≤ (j : Nat) := by omega
              have hjL : (j : Int) < (L : Nat) := by omega
              obtain ⟨p, hp⟩ : ∃ p, A[j]? = some p := ⟨_, List.getElem?_eq_getElem (by rw [HLL.out]; omega)⟩
              have hro := rem_old q HDD.out.right.sorted HQT.out hp
              have hpn := HDD.out.right.num p (List.mem_of_getElem? hp)
              have hrm := remove_any (w := wr.drew) (DiskAt.low hd (Below.refl _ _).drew) p.n (by omega)
              rw [hro] at hrm
              have hgl : LogAt D G size wr := HG4.out.touch ht fun e => by
                have h1 := heap_lt (show w2.heap[G]? = _ from (HG.out.below HBW.out).below HB2.out)
                rcases e with e | e
                · exact HNF.out e.1
                · omega
              obtain ⟨g0, g1, gf⟩ := twoC hgl
              have hnr0 := hnr
              rcases hnr.2 with ⟨_, hz⟩ | ⟨g, off, cap2, cur, hv, _⟩
              · omega
              simp only [Value.slice.injEq, true_and] at hv
              obtain ⟨rfl, rfl⟩ := hv
              have hcell := hnr.cell j (by omega)
              have hnk : (numsV (A.map (·.n)))[j]? = some (.int .i64 p.n) := by
                obtain ⟨hkl, e⟩ := List.getElem?_eq_some_iff.1 hp
                subst e
                simp [numsV, hkl]
              rw [hnk] at hcell
              have hc0 := hcell.1
              have HRM := Lib.hid hrm; have HNR0 := Lib.hid hnr0; have HTT := Lib.hid ht
              clear hp hro hrm hgl hnr0 hnr hcell hnk hd ht HR
              go_wp2_with fail
              go_still_tail 8, (by kernel_rfl)
              change wpList _ _ _ _ _ wr.drew
              go_wp2_with fail
              with_reducible refine HRM.out.mono ?_
              rintro e w5 ⟨rfl, hd5, ht5⟩
              have HNX := Lib.hid (show R2 W (Grow (fun k => F k ∧ k < w.heap.size) w2) D room A q (.slice (some ⟨g, off, none⟩) L n1) w4 j w5 from by
                refine ⟨hd5, ?_, (HTT.out.drew).after ht5⟩
                rw [HLL.out]
                exact HNR0.out.kept fun j hj hlt => ht5.block j hlt (HNL.out j hj).1)
              clear hd5 ht5 HRM HTT HNR0
              go_wp2_with fail
              exact ⟨⟨j, by omega, by go_num, HNX⟩, by simp [intOf]⟩
        · have hrw := HRW.out
          rw [if_pos hok] at hrw
          have hfa := HFA.out hok
          rw [hfa] at hd3
          have HF := Lib.hid (show AddPost W F D room w (rewD room size A rs) (.returned (.int .i64 ((appD room A (m + 1) (textsL rs)).2 : Nat))) w3 from by
            rw [hrw]
            exact ⟨rfl, hd3.mono hgr (Grow.new HDD.out), ht03⟩)
          clear hrw hfa hd3 ht3 ht02 ht03 hgr HRA HFA HRW HTOP
          generalize (appD room A (m + 1) (textsL rs)).2 = C at *
          have hC : ¬ (C : Int) = 0 := by omega
          go_wp2_with fail
          go_ret
          exact HF.out
end
end Go.Proofs.YtbgchhgdlceceaaGreatDoor.Log
