/- What plan.Print calls, walked. -/
import Derived.Test.YtglgbidcmkncgaaDoorPlanBackPlain2
import Derived.Test.YtglgbidcmkncgaaDoorPlanMem
import Derived.Test.YtglgbidcmkncgaaDoorPlanRef
import Derived.Shelf.Abstract
import Derived.Lib.LaidTab
import Derived.Deep.RegionHeld3
import Derived.Deep.RegionWith
import Derived.StillTailTactics
import Derived.Deep.DeepCutAuto
import Derived.Deep.QuietTactic
import Derived.BigQuiet
namespace Go.Proofs.YtglgbidcmkncgaaDoor.Subj
open Go.RowKit
open Go.Sort (grow)

theorem comma_byte (l : List UInt8) : decide (0 ≤ Lib.indexByte l 44) = l.contains 44 := by
  induction l with
  | nil => rfl
  | cons b l ih =>
    unfold Lib.indexByte
    rw [List.contains_cons, ← ih]
    by_cases hb : b = 44
    · subst hb; simp
    · have h1 : (b == 44) = false := by simpa using hb
      have h2 : ((44 : UInt8) == b) = false := by simpa using Ne.symm hb
      rw [h1, h2, Bool.false_or]
      simp only [Bool.false_eq_true, if_false]
      by_cases h3 : Lib.indexByte l 44 = -1
      · rw [h3]; rfl
      · have h4 : (Lib.indexByte l 44 == -1) = false := by simpa using h3
        rw [h4]
        simp only [Bool.false_eq_true, if_false]
        have h5 : -1 ≤ Lib.indexByte l 44 := by
          clear ih h3 h4
          induction l with
          | nil => decide
          | cons a l ih2 =>
            unfold Lib.indexByte
            split
            · omega
            · split <;> omega
        rw [Bool.eq_iff_iff, decide_eq_true_eq, decide_eq_true_eq]
        omega

set_option maxRecDepth 100000 in
theorem comma_any (s : ByteArray) (w : World) :
    Calls Tryd.prog 93 #[.string s] w fun e w' => e = .returned (.bool (s.data.toList.contains 44)) ∧ w = w' := by
  have hc := fun w => Tryd.strings_Contains_one s 44 w
  rw [comma_byte] at hc
  generalize s.data.toList.contains 44 = b at *
  have HC := Lib.hid hc
  clear hc
  go_enter Tryd.func93, Tryd.ntmps93
  go_wp2_with (go_at_call 94; refine (HC.out _).mono ?_; rintro e w' ⟨rfl, rfl⟩)
  go_ret
  exact ⟨rfl, rfl⟩

theorem fn_comma : ∀ args w, (callFunc 93 args).run Tryd.prog w = .ok (.enter 93 args) w := enters_of Tryd.func93 (by kernel_rfl) rfl

theorem hasComma_at {fs : List Tok} {k : Nat} (hk : k < fs.length) (h : (fs.getD k []).contains 44 = true) : hasComma fs = true := by
  unfold hasComma
  rw [List.any_eq_true]
  exact ⟨fs.getD k [], by simp [List.getD, hk], h⟩
theorem hasComma_none {fs : List Tok} (h : ∀ k, k < fs.length → (fs.getD k []).contains 44 = false) : hasComma fs = false := by
  unfold hasComma
  rw [List.any_eq_false]
  intro f hf
  obtain ⟨k, hk, rfl⟩ := List.getElem_of_mem hf
  have := h k hk
  simp only [List.getD, List.getElem?_eq_getElem hk, Option.getD_some] at this
  rw [this]; simp

set_option maxHeartbeats 2000000 in
set_option maxRecDepth 100000 in
theorem index_comma (fs : List Tok) (v : Value) (w : World) (hS : Strs w v fs) (hl : fs.length ≤ 1048576) :
    Calls Tryd.prog 120 #[v, .func (.func 93) #[] #[]] w
      fun e w' => ∃ n : Int, e = .returned (.int .i64 n) ∧ (decide (0 ≤ n) = hasComma fs) ∧ w = w' := by
  have eg := fn_comma
  obtain ⟨ao, cap, rfl, hc, hat⟩ := hS
  obtain ⟨n, hn⟩ : ∃ n, fs.length = n := ⟨_, rfl⟩
  rw [hn] at hc hl ⊢
  have HAT := Lib.hid (fun (h : 0 < n) => hat (by intro e; rw [e] at hn; simp at hn; omega))
  have HN := Lib.hid hn
  have HC := Lib.hid fun s w => comma_any s w
  clear hat hn
  go_enter Tryd.func120, Tryd.ntmps120
  go_wp2_with fail
  go_loop [5, 8] (fun _ i => ∃ k : Nat, k ≤ n ∧ i = .int .i64 k ∧ Hid (∀ j, j < k → (fs.getD j []).contains 44 = false)) (fun _ i => n - (intOf i).toNat)
  case atStart => exact ⟨0, Nat.zero_le _, rfl, Lib.hid fun j hj => by omega⟩
  case round =>
    obtain ⟨k, hk, rfl, A⟩ := hrel
    by_cases hlt : k < n
    · have hltz : (k : Int) < n := by omega
      obtain ⟨g, off, rfl, hst⟩ := HAT.out (by omega)
      have c0 := hst k (by rw [HN.out]; exact hlt)
      have HCALL := Lib.hid (HC.out (strAt fs k) w)
      clear hst
      cases hq : (fs.getD k []).contains 44 with
      | true =>
        have hc1 : (strAt fs k).data.toList.contains 44 = true := hq
        rw [hc1] at HCALL
        have HH := Lib.hid (hasComma_at (by rw [HN.out]; exact hlt) hq)
        clear hc1 hq
        generalize strAt fs k = T at *
        go_wp2_with (go_at_fn 93; refine HCALL.out.mono ?_; rintro e w' ⟨rfl, rfl⟩)
        go_ret
        exact ⟨_, rfl, by rw [HH.out]; simp, rfl⟩
      | false =>
        have hc1 : (strAt fs k).data.toList.contains 44 = false := hq
        rw [hc1] at HCALL
        have HQ := Lib.hid hq
        clear hc1 hq
        generalize strAt fs k = T at *
        go_wp2_with (go_at_fn 93; refine HCALL.out.mono ?_; rintro e w' ⟨rfl, rfl⟩)
        refine ⟨⟨k + 1, by omega, by go_num, Lib.hid fun j hj => ?_⟩, by simp [intOf]; omega⟩
        by_cases e : j = k
        · subst e; exact HQ.out
        · exact A.out j (by omega)
    · have hltz : ¬ (k : Int) < n := by omega
      have HH := Lib.hid (hasComma_none fun j hj => A.out j (by rw [HN.out] at hj; omega))
      go_wp2
      go_ret
      exact ⟨_, rfl, by rw [HH.out]; simp, rfl⟩

set_option maxRecDepth 100000 in
theorem contains_comma (fs : List Tok) (v : Value) (w : World) (hS : Strs w v fs) (hl : fs.length ≤ 1048576) :
    Calls Tryd.prog 92 #[v, .func (.func 93) #[] #[]] w
      fun e w' => e = .returned (.bool (hasComma fs)) ∧ w = w' := by
  have H := Lib.hid (index_comma fs v w hS hl)
  obtain ⟨ao, cap, rfl, _⟩ := hS
  generalize hasComma fs = b at *
  generalize fs.length = n at *
  go_enter Tryd.func92, Tryd.ntmps92
  go_wp2_with fail
  refine H.out.mono ?_
  rintro e w' ⟨n, rfl, hn, rfl⟩
  go_wp2
  go_ret
  first | exact ⟨rfl, rfl⟩ | exact ⟨ret_bool hn, rfl⟩

/-! ### Tables -/
/-- The powers of ten lie as they are laid. -/
def TenLaid (w : World) : Prop := Lib.TabIs Tryd.prog w "internal/strconv.uint64pow10" .u64 Lib.pow10Tab

theorem tab_below {P : Program} {w w' : World} {n : String} {k : IntKind} {zs : List Int} (h : Lib.TabIs P w n k zs) (hb : Below w.heap.size w w') : Lib.TabIs P w' n k zs := by
  unfold Lib.TabIs World.var? at *
  cases hg : P.globalNamed n with
  | none => rw [hg] at h; cases h
  | some g =>
    rw [hg] at h
    simp only [Option.bind_some] at h ⊢
    cases ho : w.heap[g]? with
    | none => rw [ho] at h; cases h
    | some o => rw [ho] at h; rw [hb.block g (Heap.heap_lt ho), ho]; exact h

theorem TenLaid.inv {w0 w : World} (h : TenLaid w0) (hI : Inv w0 w) : TenLaid w := tab_below h hI.2

theorem below_grow (w : World) (k : Nat) (os : Array Obj) : Below w.heap.size w (grow (w.drewN k) os) :=
  ⟨rfl, rfl, rfl, by simp [grow], fun i hi => by simp [grow, Array.getElem?_append, hi]⟩

def TextRet (W : World) (s : ByteArray) (w : World) (e : Ending) (w' : World) : Prop := e = .returned (.string s) ∧ Below w.heap.size w w'

theorem itoa_any (v : Int) (h0 : 0 ≤ v) (h : v ≤ 999999999) (w : World) (ht : TenLaid w) : Calls Tryd.prog 86 #[.int .i64 v] w (TextRet w ⟨(Lib.itoa v).toArray⟩ w) :=
  (Tryd.strconv_Itoa v (by omega) (by omega) w ht).mono fun e w' ⟨a, k, os, b⟩ => ⟨a, by rw [b]; exact below_grow w k os⟩

theorem join_any (fs : List Tok) (v : Value) (w : World) (hS : Strs w v fs) (hne : fs ≠ []) (hl : fs.length ≤ 4) (hz : ∀ f ∈ fs, f.length ≤ 136) :
    Calls Tryd.prog 53 #[v, .string ⟨#[44]⟩] w (TextRet w ⟨(joinC fs).toArray⟩ w) := by
  obtain ⟨ao, cap, rfl, hc, hat⟩ := hS
  obtain ⟨g, off, rfl, hst⟩ := hat hne
  have hlen : (fs.map fun t => (⟨t.toArray⟩ : ByteArray)).length = fs.length := by simp
  have hmap : (fs.map fun t => (⟨t.toArray⟩ : ByteArray)).map (·.data.toList) = fs := by
    rw [List.map_map]
    conv => rhs; rw [← List.map_id fs]
    rfl
  have hj := joinC_len 136 fs hz
  have hj2 : fs.length * (136 + 1) ≤ 4 * 137 := Nat.mul_le_mul hl (by omega)
  have hpos : 0 < fs.length := List.length_pos_iff.2 hne
  have := Tryd.strings_Join g off cap (fs.map fun t => ⟨t.toArray⟩) ⟨#[44]⟩ w (fun j x hx => by
      have hj : j < fs.length := by have := (List.getElem?_eq_some_iff.1 hx).1; rw [hlen] at this; exact this
      have h1 := hst j hj
      rw [h1]
      rw [List.getElem?_map, List.getElem?_eq_getElem hj] at hx
      simp only [Option.map_some, Option.some.injEq] at hx
      subst hx
      unfold strAt
      simp [List.getD, hj]) (World.block_lt_of_cell? w _ (hst 0 hpos)) (by rw [hlen]; omega) (by rw [hlen]; exact hc) (by rw [hmap]; show (joinC fs).length ≤ _; omega)
  rw [hlen, hmap] at this
  exact this

/-! ### Print -/
/-- What is told: the text and an error. -/
def printR (name : List UInt8) (fs : List Tok) (vs : List Int) : List UInt8 × Nat :=
  if planErr name fs vs = 0 then if hasComma fs then ([], 3) else (printL name fs vs, 0) else ([], planErr name fs vs)

def PrintPost (W : World) (x : List UInt8 × Nat) (e : Ending) (w : World) : Prop := e = .returned (.tuple #[.string ⟨x.1.toArray⟩, .int .i64 x.2]) ∧ Inv W w

/-- The text so far. -/
def OutAt (pre : List UInt8) (vs : List Int) (k : Nat) (v : Value) : Prop := ∃ o : ByteArray, v = .string o ∧ o.data.toList = pre ++ tailK vs k ∧ o.size ≤ 800 + 18 * k

end Go.Proofs.YtglgbidcmkncgaaDoor.Subj
