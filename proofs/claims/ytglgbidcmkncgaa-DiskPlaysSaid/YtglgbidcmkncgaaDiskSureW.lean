/- The law DiskSure, walked: it returns true. -/
import Derived.Test.YtglgbidcmkncgaaDiskCrash
namespace Go.Proofs.Ytglgbidcmkncgaa.Dsk
open Go.RowKit Go.Maps Heap

/-! ### in plain Lean -/
def fileOf (B : Nat → Bool) (i : Nat) (s : List UInt8) : FileP := ⟨i, s ++ s, if B i then s.length else 0⟩
def filesF (B : Nat → Bool) (ss : List (List UInt8)) (k : Nat) : List FileP := (List.range k).map fun i => fileOf B i (ss.getD i [])

theorem filesF_succ (B : Nat → Bool) (ss : List (List UInt8)) (k : Nat) : filesF B ss (k + 1) = filesF B ss k ++ [fileOf B k (ss.getD k [])] := by
  unfold filesF; rw [List.range_succ, List.map_append]; rfl

theorem filesF_lt {B : Nat → Bool} {ss : List (List UInt8)} {k : Nat} : ∀ p ∈ filesF B ss k, p.n < k := by
  intro p hp
  obtain ⟨i, hi, rfl⟩ := List.mem_map.1 hp
  rw [List.mem_range] at hi
  show (i : Int) < k
  omega

theorem getF_append_none : ∀ {A : List FileP} {n : Int} (p : FileP), (∀ x ∈ A, x.n ≠ n) → p.n = n → getF (A ++ [p]) n = some p
  | [], n, p, _, e => by simp [getF, e]
  | a :: r, n, p, h, e => by
    rw [List.cons_append]; unfold getF
    rw [if_neg (h a (by simp))]
    exact getF_append_none p (fun x hx => h x (List.mem_cons_of_mem _ hx)) e

theorem getF_no : ∀ {A : List FileP} {n : Int}, (∀ x ∈ A, x.n ≠ n) → getF A n = none
  | [], _, _ => rfl
  | a :: r, n, h => by
    unfold getF; rw [if_neg (h a (by simp))]
    exact getF_no fun x hx => h x (List.mem_cons_of_mem _ hx)

theorem insF_end : ∀ {A : List FileP} (q : FileP), (∀ x ∈ A, x.n < q.n) → insF A q = A ++ [q]
  | [], _, _ => rfl
  | a :: r, q, h => by
    unfold insF
    have := h a (by simp)
    rw [if_neg (by omega), insF_end q fun x hx => h x (List.mem_cons_of_mem _ hx)]
    rfl

theorem setF_end {A : List FileP} (p q : FileP) (h : ∀ x ∈ A, x.n ≠ q.n) (e : p.n = q.n) : setF (A ++ [p]) q = A ++ [q] := setF_mid A p q [] h e

theorem total_append : ∀ (A : List FileP) (p : FileP), total (A ++ [p]) = total A + p.text.length
  | [], p => by simp [total]
  | a :: r, p => by simp only [List.cons_append, total, total_append r p]; omega

theorem total_files {B : Nat → Bool} {ss : List (List UInt8)} : ∀ {k : Nat}, (∀ j, j < k → (ss.getD j []).length ≤ 1000) → total (filesF B ss k) ≤ 2000 * k
  | 0, _ => by simp [filesF, total]
  | k + 1, h => by
    rw [filesF_succ, total_append]
    have := total_files (B := B) (ss := ss) (k := k) fun j hj => h j (by omega)
    have h2 := h k (by omega)
    simp only [fileOf, List.length_append]
    omega

section
variable {B : Nat → Bool} {ss : List (List UInt8)} {k : Nat}

theorem step_app {s : List UInt8} (hk : k < 20) (hs : s.length ≤ 1000) (h : ∀ j, j < k → (ss.getD j []).length ≤ 1000) : appD 65536 (filesF B ss k) k s = (filesF B ss k ++ [⟨k, s, 0⟩], 0) := by
  have ht := total_files (B := B) h
  unfold appD
  rw [if_neg (by omega), if_neg (by omega), getF_no fun x hx => by have := filesF_lt x hx; omega]
  simp only
  rw [if_neg (by simp [filesF]; omega), insF_end _ (fun x hx => filesF_lt x hx)]

theorem step_app2 {s t : List UInt8} {u : Nat} (hk : k < 20) (hs : s.length ≤ 1000) (htl : t.length ≤ 1000) (h : ∀ j, j < k → (ss.getD j []).length ≤ 1000) : appD 65536 (filesF B ss k ++ [⟨k, t, u⟩]) k s = (filesF B ss k ++ [⟨k, t ++ s, u⟩], 0) := by
  have ht := total_files (B := B) h
  have hne : ∀ x ∈ filesF B ss k, x.n ≠ (k : Int) := fun x hx => by have := filesF_lt x hx; omega
  unfold appD
  rw [if_neg (by omega), if_neg (by rw [total_append]; simp only; omega), getF_append_none _ hne rfl]
  simp only
  rw [setF_end ⟨k, t, u⟩ ⟨k, t ++ s, u⟩ hne rfl]

theorem step_sync {t : List UInt8} {u : Nat} : syncD (filesF B ss k ++ [⟨k, t, u⟩]) k = (filesF B ss k ++ [⟨k, t, t.length⟩], 0) := by
  have hne : ∀ x ∈ filesF B ss k, x.n ≠ (k : Int) := fun x hx => by have := filesF_lt x hx; omega
  unfold syncD
  rw [getF_append_none _ hne rfl]
  simp only
  rw [setF_end ⟨k, t, u⟩ ⟨k, t, t.length⟩ hne rfl]
end

theorem kept_twice {K : Nat} {p : FileP} (h : p.sure ≤ p.text.length) : keptF 0 (keptF K p) = keptF K p := by
  have hl : (keptF K p).text.length = (keptF K p).sure := by
    show (p.text.take (p.sure + min K (p.text.length - p.sure))).length = p.sure + min K (p.text.length - p.sure)
    rw [List.length_take]; omega
  generalize keptF K p = q at hl
  unfold keptF
  rw [Nat.zero_min, Nat.add_zero, ← hl, List.take_length, hl]

theorem crash_twice {K : Nat} {A : List FileP} (h : ∀ p ∈ A, p.sure ≤ p.text.length) : crashD (crashD A K) 0 = crashD A K := by
  unfold crashD
  rw [List.map_map]
  exact List.map_congr_left fun p hp => kept_twice (h p hp)

theorem getF_crash : ∀ (A : List FileP) (K : Nat) (n : Int), getF (crashD A K) n = (getF A n).map (keptF K)
  | [], _, _ => rfl
  | a :: r, K, n => by
    have ih := getF_crash r K n
    show getF (keptF K a :: crashD r K) n = _
    unfold getF
    rw [ih]
    show (if a.n = n then _ else _) = _
    by_cases e : a.n = n
    · rw [if_pos e, if_pos e]; rfl
    · rw [if_neg e, if_neg e]

theorem getF_files {B : Nat → Bool} {ss : List (List UInt8)} : ∀ {m k : Nat}, k < m → getF (filesF B ss m) k = some (fileOf B k (ss.getD k []))
  | 0, _, h => by omega
  | m + 1, k, h => by
    rw [filesF_succ]
    by_cases e : k = m
    · subst e
      exact getF_append_none _ (fun x hx => by have := filesF_lt x hx; omega) rfl
    · have ih := getF_files (B := B) (ss := ss) (m := m) (k := k) (by omega)
      have : ∀ (A : List FileP) (p : FileP) (n : Int) (q : FileP), getF A n = some q → getF (A ++ [p]) n = some q := by
        intro A
        induction A with
        | nil => intro p n q h; cases h
        | cons a r ih =>
          intro p n q h
          rw [List.cons_append]
          unfold getF at h ⊢
          split at h
          · rename_i e; rw [if_pos e]; exact h
          · rename_i e; rw [if_neg e]; exact ih p n q h
      exact this _ _ _ _ ih

/-- What is read behind the stop. -/
theorem read_files {B : Nat → Bool} {ss : List (List UInt8)} {m k K : Nat} (h : k < m) {s : List UInt8} (hs : ss.getD k [] = s) : readD (crashD (filesF B ss m) K) k = ((s ++ s).take (if B k then s.length + min K s.length else min K (2 * s.length)), 0) := by
  unfold readD
  rw [getF_crash, getF_files h, hs]
  show ((keptF K (fileOf B k s)).text, 0) = _
  unfold keptF fileOf
  simp only [List.length_append]
  by_cases hb : B k = true
  · rw [if_pos hb, if_pos hb, show s.length + s.length - s.length = s.length by omega]
  · rw [if_neg hb, if_neg hb, Nat.zero_add, show s.length + s.length - 0 = 2 * s.length by omega]

/-! ### the walk -/
/-- A slice of texts. -/
def TextsAt (w : World) (ao : Option Addr) (n : Nat) (ss : List (List UInt8)) : Prop :=
  ss.length = n ∧ (0 < n → ∃ g off, ao = some ⟨g, off, none⟩ ∧ ∀ i, i < n → w.cell? ⟨g, off + i, none⟩ = some (.string ⟨(ss.getD i []).toArray⟩))

theorem TextsAt.below {w w' : World} {ao : Option Addr} {n : Nat} {ss : List (List UInt8)} (h : TextsAt w ao n ss) (hb : Below w.heap.size w w') : TextsAt w' ao n ss := by
  refine ⟨h.1, fun hn => ?_⟩
  obtain ⟨g, off, e, hc⟩ := h.2 hn
  exact ⟨g, off, e, fun i hi => by have := hc i hi; rw [World.cell?_of_block (a := ⟨g, off + i, none⟩) (hb.block g (World.block_lt_of_cell? w _ this))]; exact this⟩

theorem DiskAt.wide {W w : World} {F : Nat → Prop} {D : Nat} {room : Int} {A : List FileP} (h : DiskAt W F D room A w) : DiskAt W (fun k => W.heap.size ≤ k) D room A w := h.mono h.newF fun _ hk => hk

def LR (W : World) (D : Nat) (B : Nat → Bool) (ss : List (List UInt8)) (k : Nat) (wr : World) : Prop :=
  DiskAt W (fun k => W.heap.size ≤ k) D 65536 (filesF B ss k) wr ∧ ∀ j, j < k → (ss.getD j []).length ≤ 1000

set_option maxHeartbeats 2000000 in
set_option maxRecDepth 100000 in
theorem diskSure_walk (ao : Option Addr) (n cap : Nat) (sync keep : Int) (ss : List (List UInt8)) (w : World) (hn : n ≤ 9223372036854775807) (hS : TextsAt w ao n ss) :
    Calls Try.prog 5 #[.slice ao n cap, .int .i64 sync, .int .i64 keep] w fun e w' => e = .returned (.bool true) ∧ Below w.heap.size w w' := by
  have HN := Lib.hid (new_good (W := w) (w := w) (Below.refl _ _) 65536 (by omega) (by omega))
  have HS := Lib.hid hS
  clear hS
  go_enter Try.func5, Try.ntmps5
  go_wp2_with fail
  refine HN.out.mono ?_
  rintro e w1 ⟨rfl, hD1, hb1⟩
  have HA1 := Lib.hid ((append_any hD1 3 ⟨#[97, 98]⟩ (by omega) (by decide)))
  rw [show (appD 65536 [] 3 (⟨#[97, 98]⟩ : ByteArray).data.toList) = ([⟨3, [97, 98], 0⟩], 0) from rfl] at HA1
  clear HN hD1 hb1
  generalize w.heap.size + 1 = D at *
  go_wp2_with fail
  refine HA1.out.mono ?_
  rintro e w2 ⟨rfl, hD2, hT2⟩
  have HU := Lib.hid (used_any hD2); have HR := Lib.hid (remove_any hD2 3 (by omega))
  rw [show (removeD [⟨3, [97, 98], 0⟩] 3) = ([], 0) from rfl] at HR
  rw [show total [⟨3, [97, 98], 0⟩] = 2 from rfl] at HU
  clear HA1 hD2 hT2
  go_wp2_with fail
  refine HU.out.mono ?_
  rintro e w2' ⟨rfl, rfl⟩
  go_wp2_with fail
  refine HR.out.mono ?_
  rintro e w3 ⟨rfl, hD3, hT3⟩
  have HD3 := Lib.hid hD3.wide
  clear HU HR hD3 hT3
  go_wp2_with fail
  obtain ⟨B, hB⟩ : ∃ B : Nat → Bool, B = fun i => bits BinOp.and IntKind.i64 (sync / 2 ^ (i % 60)) 1 == 1 := ⟨_, rfl⟩
  have HB := Lib.hid (fun i => (by rw [hB] : B i = (bits BinOp.and IntKind.i64 (sync / 2 ^ (i % 60)) 1 == 1)))
  clear hB
  go_loopw [39] (fun i wr => ∃ k : Nat, k ≤ n ∧ k ≤ 20 ∧ i = .int .i64 k ∧ Hid (LR w D B ss k wr)) (fun i _ => n - (intOf i).toNat)
  case atStart => exact ⟨0, Nat.zero_le _, Nat.zero_le _, rfl, Lib.hid ⟨HD3.out, fun j hj => by omega⟩⟩
  case round =>
    obtain ⟨k, hk, hk20, rfl, HR⟩ := hrel
    clear HD3
    by_cases hlt : k < n
    · have hltz : (k : Int) < n := by omega
      obtain ⟨g, off, rfl, hcs⟩ := (HS.out.below HR.out.1.below).2 (by omega)
      have hcell := hcs k hlt
      obtain ⟨s, hs⟩ : ∃ s, ss.getD k [] = s := ⟨_, rfl⟩
      obtain ⟨T, hT, hTs, hTl⟩ := text_of s
      rw [hs, ← hT] at hcell
      clear hcs
      by_cases h20 : k < 20
      · have h20z : ¬ (20 : Int) ≤ k := by omega
        by_cases hlen : (1000 : Int) < T.size
        · clear hT hTs
          go_wp2_with fail
          go_ret
          exact ⟨rfl, HR.out.1.below⟩
        · have HA := Lib.hid (append_any HR.out.1 k T (by omega) (by omega))
          rw [hTl, step_app h20 (by omega) HR.out.2] at HA
          have HTS := Lib.hid hTs
          clear hT hTs
          go_wp2_with fail
          refine HA.out.mono ?_
          rintro e w4 ⟨rfl, hD4, hT4⟩
          have HD4 := Lib.hid hD4.wide
          clear hD4 hT4 HA
          obtain ⟨u, hu⟩ : ∃ u, (if B k then s.length else 0) = u := ⟨_, rfl⟩
          have HUU := Lib.hid hu
          clear hu
          go_upto_if 60 with fail
          go_cut [63] from 60 to 63 (fun _ wx => Hid (DiskAt w (fun k => w.heap.size ≤ k) D 65536 (filesF B ss k ++ [⟨k, s, u⟩]) wx))
          case first =>
            by_cases hb : B k = true
            · have hb2 : (bits BinOp.and IntKind.i64 (sync / 2 ^ (k % 60)) 1 == 1) = true := by rw [← HB.out]; exact hb
              have HSY := Lib.hid (sync_any HD4.out k (by omega))
              rw [step_sync] at HSY
              have hu := HUU.out
              rw [if_pos hb] at hu
              subst hu
              clear hb HUU
              go_wp2_with fail
              refine HSY.out.mono ?_
              rintro e w5 ⟨rfl, hD5, _⟩
              have HD5 := Lib.hid hD5
              clear hD5 HSY HD4
              go_wp2_with fail
              go_meet
              exact HD5
            · have hb2 : (bits BinOp.and IntKind.i64 (sync / 2 ^ (k % 60)) 1 == 1) = false := by rw [← HB.out]; simpa using hb
              have hu := HUU.out
              rw [if_neg hb] at hu
              subst hu
              clear hb HUU
              go_wp2_with fail
              go_meet
              exact HD4
          case rest =>
          have HA := Lib.hid (append_any hcut.out k T (by omega) (by omega))
          rw [hTl, step_app2 h20 (by rw [← HTS.out]; omega) (by rw [← HTS.out]; omega) HR.out.2] at HA
          have HLT := Lib.hid (show (ss.getD k []).length ≤ 1000 from by rw [hs, ← HTS.out]; omega)
          clear HD4
          go_wp2_with fail
          refine HA.out.mono ?_
          rintro e w5 ⟨rfl, hD5, _⟩
          have HF := Lib.hid (show LR w D B ss (k + 1) w5 from ⟨by rw [filesF_succ, hs]; unfold fileOf; rw [HUU.out]; exact hD5.wide, fun j hj => by
            by_cases e : j = k
            · subst e; exact HLT.out
            · exact HR.out.2 j (by omega)⟩)
          clear hD5 HA hcut HR
          go_wp2_with fail
          exact ⟨⟨k + 1, by omega, by omega, by go_num, HF⟩, by simp [intOf]; omega⟩
      · have h20z : (20 : Int) ≤ k := by omega
        clear hT hTs
        go_wp2_with fail
        go_ret
        exact ⟨rfl, HR.out.1.below⟩
    · have hltz : ¬ (k : Int) < n := by omega
      obtain rfl : k = n := by omega
      have HC := Lib.hid (crash_any HR.out.1 keep)
      obtain ⟨K, hK⟩ : ∃ K, keep.toNat = K := ⟨_, rfl⟩
      rw [hK] at HC
      have HSM := Lib.hid HR.out.2
      have HSU := Lib.hid HR.out.1.right.sure
      go_wp2_with fail
      refine HC.out.mono ?_
      rintro e w4 ⟨rfl, hD4, _⟩
      have HD4 := Lib.hid hD4
      have HKK := Lib.hid hK
      clear hD4 HC hK HR
      obtain ⟨AC, hAC⟩ : ∃ AC, crashD (filesF B ss k) K = AC := ⟨_, rfl⟩
      rw [hAC] at HD4
      have HAC := Lib.hid hAC
      clear hAC
      go_wp2_with fail
      go_loopw [72] (fun i wr => ∃ m : Nat, m ≤ 2 ∧ i = .int .i64 m ∧ Hid (DiskAt w (fun k => w.heap.size ≤ k) D 65536 AC wr)) (fun i _ => 2 - (intOf i).toNat)
      case atStart => exact ⟨0, Nat.zero_le _, rfl, HD4⟩
      case round =>
        obtain ⟨m, hm, rfl, HR⟩ := hrel
        clear HD4
        by_cases hlt2 : m < 2
        · have hltz2 : (m : Int) < 2 := by omega
          go_wp2_with fail
          go_loopw [76] (fun i wr => ∃ j : Nat, j ≤ k ∧ i = .int .i64 j ∧ Hid (DiskAt w (fun k => w.heap.size ≤ k) D 65536 AC wr)) (fun i _ => k - (intOf i).toNat)
          case atStart => exact ⟨0, Nat.zero_le _, rfl, HR⟩
          case round =>
            obtain ⟨j, hj, rfl, HJ⟩ := hrel
            clear HR
            by_cases hlt3 : j < k
            · have hltz3 : (j : Int) < k := by omega
              obtain ⟨g, off, rfl, hcs⟩ := (HS.out.below HJ.out.below).2 (by omega)
              have hcell := hcs j hlt3
              obtain ⟨s, hs⟩ : ∃ s, ss.getD j [] = s := ⟨_, rfl⟩
              obtain ⟨T, hT, hTs, hTl⟩ := text_of s
              rw [hs, ← hT] at hcell
              have hsl := HSM.out j hlt3
              rw [hs] at hsl
              have hrd := read_any HJ.out j (by omega)
              rw [← HAC.out, read_files hlt3 hs] at hrd
              obtain ⟨WN, hWN⟩ : ∃ WN, (if B j then s.length + min K s.length else min K (2 * s.length)) = WN := ⟨_, rfl⟩
              rw [hWN] at hrd
              obtain ⟨W1, hW1⟩ : ∃ W1, min K (2 * s.length) = W1 := ⟨_, rfl⟩
              have hwle : WN ≤ T.size + T.size := by
                rw [hTs, ← hWN]
                split <;> omega
              have htt : (⟨((s ++ s).take WN).toArray⟩ : ByteArray) = (T ++ T).extract 0 WN := by
                refine take_text ?_ WN
                rw [← hTl]; simp
              simp only [htt] at hrd
              have HRD := Lib.hid hrd; have HWN := Lib.hid hWN; have HW1 := Lib.hid hW1; have HTS := Lib.hid hTs; have HSL := Lib.hid hsl; have HWL := Lib.hid hwle
              have hT1000 : (T.size : Int) ≤ 1000 := by omega
              have wz : IntKind.i64.wrap (2 * (T.size : Int)) = 2 * (T.size : Int) := IntWalk.i64_in _ (by omega)
              clear hcs hT hTs hTl hsl hrd hWN hW1 hwle htt hs
              go_upto_region 20 with fail
              go_cut [13] from 81 to 86 (fun s13 wx => s13 = .int .i64 W1 ∧ wr = wx)
              case first =>
                by_cases hneg : keep < 0
                · have hk0 : (K : Int) = 0 := by have := HKK.out; omega
                  go_wp2_with fail
                  all_goals (go_meet; exact ⟨val_int (by have := HW1.out; have := HTS.out; omega), rfl⟩)
                · have hk0 : (K : Int) = keep := by have := HKK.out; omega
                  go_wp2_with fail
                  all_goals (go_meet; exact ⟨val_int (by have := HW1.out; have := HTS.out; omega), rfl⟩)
              case rest =>
              obtain ⟨rfl, rfl⟩ := hcut
              go_upto_if 92 with fail
              go_cut [13] from 92 to 100 (fun s13 wx => s13 = .int .i64 WN ∧ wr = wx)
              case first =>
                have hTS := HTS.out
                by_cases hb : B j = true
                · have hb2 : (bits BinOp.and IntKind.i64 (sync / 2 ^ (j % 60)) 1 == 1) = true := by rw [← HB.out]; exact hb
                  have hw := HWN.out
                  rw [if_pos hb, ← hTS] at hw
                  have HW := Lib.hid hw
                  clear hb hw hTS
                  by_cases hneg : keep < 0
                  · have hk0 : (K : Int) = 0 := by have := HKK.out; omega
                    go_wp2_with fail
                    all_goals (go_meet; exact ⟨val_int (by have := HW.out; first | omega | (rw [IntWalk.wrap64_in _ (by omega)]; omega)), rfl⟩)
                  · have hk0 : (K : Int) = keep := by have := HKK.out; omega
                    go_wp2_with fail
                    all_goals (go_meet; exact ⟨val_int (by have := HW.out; first | omega | (rw [IntWalk.wrap64_in _ (by omega)]; omega)), rfl⟩)
                · have hb2 : (bits BinOp.and IntKind.i64 (sync / 2 ^ (j % 60)) 1 == 1) = false := by rw [← HB.out]; simpa using hb
                  have hw := HWN.out
                  rw [if_neg hb, HW1.out] at hw
                  subst hw
                  clear hb hTS
                  go_wp2_with fail
                  go_meet
                  exact ⟨rfl, rfl⟩
              case rest =>
              obtain ⟨rfl, rfl⟩ := hcut
              go_wp2_with fail
              refine HRD.out.mono ?_
              rintro e w5 ⟨rfl, rfl⟩
              have hwl := HWL.out
              have hwl2 : (WN : Int) ≤ T.size + T.size := by omega
              clear HRD
              go_wp2_with fail
              exact ⟨⟨j + 1, by omega, by go_num, HJ⟩, by simp [intOf]; omega⟩
            · have hltz3 : ¬ (j : Int) < k := by omega
              obtain rfl : j = k := by omega
              have HC := Lib.hid (crash_any HJ.out (-1))
              rw [show (-1 : Int).toNat = 0 from rfl, ← HAC.out, crash_twice HSU.out, HAC.out] at HC
              go_wp2_with fail
              refine HC.out.mono ?_
              rintro e w5 ⟨rfl, hD5, _⟩
              have HF := Lib.hid hD5
              clear hD5 HC HJ
              go_wp2_with fail
              exact ⟨⟨m + 1, by omega, by go_num, HF⟩, by simp [intOf]; omega⟩
        · have hltz2 : ¬ (m : Int) < 2 := by omega
          go_wp2_with fail
          go_ret
          exact ⟨rfl, HR.out.below⟩
end Go.Proofs.Ytglgbidcmkncgaa.Dsk
