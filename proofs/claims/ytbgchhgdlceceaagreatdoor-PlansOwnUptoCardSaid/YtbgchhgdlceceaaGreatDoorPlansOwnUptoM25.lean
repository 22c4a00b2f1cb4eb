/- Parts of the proof, joined: roomy, kept, spoil at texts and numbers. gen_roomy.py writes this text. -/
import Derived.Test.YtbgchhgdlceceaaGreatDoorPlansOwnUptoM24
namespace Go.Proofs.YtbgchhgdlceceaaGreatDoor.Own
open Go.RowKit Heap
open Subj (Tok ML Strs StrsAt strAt strsV strsV_len strsV_get Ints IntsAt)
open Sto (BlockOf)

/-- A slice of such values: nil, or its cells hold them. -/
def Vals (w : World) (v : Value) (xs : List Value) : Prop :=
  (∃ c, v = .slice none 0 c ∧ xs = []) ∨ ∃ a c, v = .slice (some a) xs.length c ∧ ∀ j u, xs[j]? = some u → w.cell? (a.add j) = some u

theorem add_flat (g off j : Nat) : (⟨g, off, none⟩ : Addr).add j = ⟨g, off + j, none⟩ := by unfold Addr.add; split <;> simp_all

theorem Vals.ofInts {w : World} {v : Value} {zs : List Int} (h : Ints w v zs) : Vals w v (zs.map (Value.int .i64)) := by
  obtain ⟨ao, cap, rfl, _, hat⟩ := h
  by_cases hz : zs = []
  · subst hz
    cases ao with
    | none => exact .inl ⟨cap, rfl, rfl⟩
    | some a => exact .inr ⟨a, cap, rfl, fun j u h => by simp at h⟩
  · obtain ⟨g, off, rfl, h2⟩ := hat hz
    refine .inr ⟨_, cap, by rw [List.length_map], fun j u h => ?_⟩
    rw [List.getElem?_map] at h
    obtain ⟨z, hz1, rfl⟩ := Option.map_eq_some_iff.1 h
    obtain ⟨hj, e⟩ := List.getElem?_eq_some_iff.1 hz1
    rw [add_flat, h2 j hj]
    simp [List.getD, hz1]

theorem Vals.ofStrs {w : World} {v : Value} {l : List Tok} (h : Strs w v l) : Vals w v (strsV l) := by
  obtain ⟨ao, cap, rfl, _, hat⟩ := h
  by_cases hz : l = []
  · subst hz
    cases ao with
    | none => exact .inl ⟨cap, rfl, rfl⟩
    | some a => exact .inr ⟨a, cap, rfl, fun j u h => by simp [strsV] at h⟩
  · obtain ⟨g, off, rfl, h2⟩ := hat hz
    refine .inr ⟨_, cap, by rw [strsV_len], fun j u h => ?_⟩
    have hj : j < l.length := by have := (List.getElem?_eq_some_iff.1 h).1; rwa [strsV_len] at this
    rw [strsV_get _ _ hj] at h
    rw [add_flat, h2 j hj]
    exact h

theorem Row.ints {w : World} {e : TypeId} {g off n cap : Nat} {zs : List Int} {ys : List Value} (hn : zs.length = n) {m : Nat} (hm : n ≤ m) (h : Row w e 1 (.slice (some ⟨g, off, none⟩) m cap) m (zs.map (Value.int .i64) ++ ys)) : Ints w (.slice (some ⟨g, off, none⟩) n cap) zs := by
  subst hn
  have := h.cap_le
  refine ⟨_, cap, rfl, by omega, fun _ => ⟨g, off, rfl, fun k hk => ?_⟩⟩
  rw [(h.cell k (by omega)).1, List.getElem?_append_left (by simpa using hk), List.getElem?_map, List.getElem?_eq_getElem hk]
  simp [List.getD, hk]

theorem Row.strs {w : World} {e : TypeId} {g off n cap : Nat} {l : List Tok} {ys : List Value} (hn : l.length = n) {m : Nat} (hm : n ≤ m) (h : Row w e 1 (.slice (some ⟨g, off, none⟩) m cap) m (strsV l ++ ys)) : Strs w (.slice (some ⟨g, off, none⟩) n cap) l := by
  subst hn
  have := h.cap_le
  refine ⟨_, cap, rfl, by omega, fun _ => ⟨g, off, rfl, fun k hk => ?_⟩⟩
  rw [(h.cell k (by omega)).1, List.getElem?_append_left (by rw [strsV_len]; exact hk), strsV_get _ _ hk]

theorem news2 (w : World) (u : Value) (t : TypeId) : ∀ j x, ([u, u] : List Value)[j]? = some x → (w.alloc (.cells #[u, u] t)).cell? ((⟨w.heap.size, 0, none⟩ : Addr).add j) = some x := by
  intro j x h
  rw [add_flat, cell_of_row _ _ _ _ _ _ (heap_alloc_new w (.cells #[u, u] t)), Nat.zero_add]
  have hj : j < 2 := by have := (List.getElem?_eq_some_iff.1 h).1; simpa using this
  rcases (show j = 0 ∨ j = 1 from by omega) with rfl | rfl <;> simpa using h

section
variable {w : World}

theorem run_append_none (wx : World) (P : Program) (t ty e : TypeId) (i : TypeInfo) (ht : P.underlying t = some (.slice e)) (hi : P.info? e = some i) (g off n cap c : Nat) (h : n ≤ cap) :
    (Builtin.append_ #[t, t] ty #[.slice (some ⟨g, off, none⟩) n cap, .slice none 0 c]).run P wx = .ok (.slice (some ⟨g, off, none⟩) n cap) wx := by
  simp [Builtin.append_, run_underlying ht, sizeOf, typeInfo, hi, Builtin.lenOf, h, Builtin.firstCells, storeCells]


theorem one_str : (Tryz.prog.info? 9).map (fun i => (i.zero, i.size, i.bytes)) = some (some (.string ByteArray.empty), 1, 16) := by kernel_rfl

/-- What roomy answers. -/
def Roomystr (w : World) (xs : List Value) (u : Value) (e : Ending) (w' : World) : Prop :=
  ∃ g off cap, e = .returned (.slice (some ⟨g, off, none⟩) xs.length cap) ∧ Row w' 9 1 (.slice (some ⟨g, off, none⟩) (xs.length + 2) cap) (xs.length + 2) (xs ++ [u, u]) ∧ w.heap.size ≤ g ∧ Below w.heap.size w w'

set_option maxHeartbeats 4000000 in
set_option maxRecDepth 100000 in
theorem roomy_str {v : Value} {xs : List Value} (h : Vals w v xs) (h1 : ∀ u ∈ xs, u.oneCell' = true) (hl : xs.length ≤ 1048576) (f : ByteArray) :
    Calls Tryz.prog 32 #[v, .string f] w (Roomystr w xs (.string f)) := by
  obtain ⟨i0, hi, hz0, hz1, hz2⟩ := info_parts one_str
  have fin : ∀ (n : Nat) (v3 : Value) (w1 w2 w3 : World), xs.length = n → Row w3 9 1 v3 (n + 2) (xs ++ [.string f, .string f]) → (∀ k, own v3 k → w.heap.size ≤ k) → Below w.heap.size w w3 → ∃ g off cap, v3 = .slice (some ⟨g, off, none⟩) (n + 2) cap ∧ n ≤ cap ∧ Roomystr w xs (.string f) (.returned (.slice (some ⟨g, off, none⟩) n cap)) w3 := by
    intro n v3 _ _ w3 hn hr ho hb
    rcases hr.2 with ⟨_, h0⟩ | ⟨g, off, cap, cur, rfl, h3, h4, h5, h6, h7⟩
    · omega
    · exact ⟨g, off, cap, rfl, by omega, g, off, cap, by rw [hn], by rw [hn]; exact hr, ho g rfl, hb⟩
  have FIN := Lib.hid fin
  have H1 := Lib.hid h1
  clear fin h1
  have rest : ∀ (n : Nat) (v1 v2 : Value) (w1 w2 : World), w1.heap.size ≤ w2.heap.size → w.grownBy w1 none → Row w1 9 1 v1 0 [] → own v1 w.heap.size → Heap.Touch (own v1) w1 w2 → (∀ k, own v2 k → own v1 k ∨ w1.heap.size ≤ k) → Below w.heap.size w w2 ∧ ∀ k, own v2 k → w.heap.size ≤ k := by
    intro n v1 v2 w1 w2 _ hg _ ho ht h2
    have hb1 : Below w.heap.size w w1 := (Below.refl _ _).grown hg (Nat.le_refl _) (by simp)
    have o1 : ∀ k, own v1 k → w.heap.size ≤ k := fun k hk => by
      have : own v1 w.heap.size := ho
      unfold own at hk this
      rw [hk] at this
      simp only [Option.some.injEq] at this
      omega
    exact ⟨hb1.trans (ht.below hb1.size o1), fun k hk => (h2 k hk).elim (o1 k) fun h => Nat.le_trans hb1.size h⟩
  have REST := Lib.hid rest
  clear rest
  rcases h with ⟨c0, rfl, hx⟩ | ⟨a0, c0, rfl, hat⟩
  · subst hx
    have hb2 : i0.bytes * (0 + 3) ≤ 281474976710656 := by rw [hz2]; omega
    have hb3 : 0 + 3 ≤ maxLen := by unfold maxLen; omega
    clear H1
    go_enter Tryz.func32, Tryz.ntmps32
    go_wp2_with (at_make; refine wpList_make_own _ rfl _ _ 60 rfl w.heap.size 9 i0 _ 1 Tryz.underlying60 hi hz0 hz1 _ _ _ (0 + 3) rfl rfl (by omega) hb2 hb3 (Nat.le_refl _) ?_)
    intro w1 hown hgr
    have hrow := Row.of_own hown
    have HROW := Lib.hid hrow; have HGR := Lib.hid hgr
    have hap := fun W => run_append_none W Tryz.prog 60 60 9 i0 Tryz.underlying60 hi w.heap.size 0 0 (0 + 3) c0 (by omega)
    clear hown hrow hgr
    obtain ⟨w3, hw3⟩ : ∃ w3, w3 = w1.alloc (.cells #[.string f, .string f] 9) := ⟨_, rfl⟩
    have hb3' : Below w1.heap.size w1 w3 := by rw [hw3]; exact (Below.refl _ _).alloc (Nat.le_refl _) _
    have HR3 := Lib.hid (HROW.out.kept (w' := w3) fun k _ hk => hb3'.block k hk)
    have HN3 := Lib.hid (show ∀ j x, ([.string f, .string f] : List Value)[j]? = some x → w3.cell? ((⟨w1.heap.size, 0, none⟩ : Addr).add j) = some x by rw [hw3]; exact news2 w1 _ _)
    have HB3 := Lib.hid hb3'
    subst hw3
    clear hb3'
    go_wp2_with (at_builtin; refine Heap.wpList_append_row _ rfl (.tmp 11) (.tmp 14) 60 rfl 9 i0 _ 1 16 Tryz.underlying60 hi hz0 hz1 hz2 rfl (by decide) _ 0 _ rfl HR3.out ⟨w1.heap.size, 0, none⟩ 2 2 [.string f, .string f] rfl rfl HN3.out (by simp [Value.oneCell']) (by unfold maxLen; omega) (by omega) ?_)
    intro v4 w4 r4 t4 o4
    have HBO := REST.out 0 _ v4 w1 w4 (Nat.le_trans HB3.out.size t4.size) HGR.out HROW.out rfl ((Heap.Touch.ofBelow HB3.out).after t4) (fun k hk => (o4 k hk).imp id fun h => Nat.le_of_succ_le (by simpa using h))
    obtain ⟨g, off, cap, rfl, hnc, HP⟩ := FIN.out 0 v4 w1 w1 w4 rfl r4 HBO.2 HBO.1
    have HP := Lib.hid HP
    clear r4 t4 o4 HBO HROW HGR HR3 HN3 HB3 hap
    go_wp2_with fail
    go_ret
    exact HP.out
  · obtain ⟨n, hn⟩ : ∃ n, xs.length = n := ⟨_, rfl⟩
    rw [hn] at hl ⊢
    have HAT := Lib.hid hat; have HN := Lib.hid hn
    have hb2 : i0.bytes * (n + 3) ≤ 281474976710656 := by rw [hz2]; omega
    have hb3 : n + 3 ≤ maxLen := by unfold maxLen; omega
    have hb4 : (n + 2) * 16 ≤ 140737488355328 := by omega
    clear hat hn
    go_enter Tryz.func32, Tryz.ntmps32
    go_wp2_with (at_make; refine wpList_make_own _ rfl _ _ 60 rfl w.heap.size 9 i0 _ 1 Tryz.underlying60 hi hz0 hz1 _ _ _ (n + 3) rfl rfl (by omega) hb2 hb3 (Nat.le_refl _) ?_)
    intro w1 hown hgr
    have hrow := Row.of_own hown
    have hb1 : Below w.heap.size w w1 := (Below.refl _ _).grown hgr (Nat.le_refl _) (by simp)
    have HROW := Lib.hid hrow; have HGR := Lib.hid hgr; have HB1 := Lib.hid hb1
    have HAT1 := Lib.hid (show ∀ j u, xs[j]? = some u → w1.cell? (a0.add j) = some u from fun j u h => (hb1.cell (World.block_lt_of_cell? w _ (HAT.out j u h))).trans (HAT.out j u h))
    clear hown hrow hgr hb1 HAT
    go_wp2_with (at_builtin; refine Heap.wpList_append_row _ rfl (.tmp 9) (.tmp 10) 60 rfl 9 i0 _ 1 16 Tryz.underlying60 hi hz0 hz1 hz2 rfl (by decide) _ 0 _ rfl HROW.out a0 n c0 xs rfl (by rw [HN.out, Nat.mul_one]) HAT1.out H1.out (by unfold maxLen; omega) (by omega) ?_)
    intro v2 w2 r2 t2 o2
    have HBO := Lib.hid (REST.out n _ v2 w1 w2 t2.size HGR.out HROW.out rfl t2 o2)
    have HR2 := Lib.hid r2
    obtain ⟨w3, hw3⟩ : ∃ w3, w3 = w2.alloc (.cells #[.string f, .string f] 9) := ⟨_, rfl⟩
    have hb3' : Below w2.heap.size w2 w3 := by rw [hw3]; exact (Below.refl _ _).alloc (Nat.le_refl _) _
    have HR3 := Lib.hid (r2.kept (w' := w3) fun k _ hk => hb3'.block k hk)
    have HN3 := Lib.hid (show ∀ j x, ([.string f, .string f] : List Value)[j]? = some x → w3.cell? ((⟨w2.heap.size, 0, none⟩ : Addr).add j) = some x by rw [hw3]; exact news2 w2 _ _)
    have HB3 := Lib.hid hb3'
    clear r2 t2 o2 hb3' HROW HGR HAT1 HR2
    subst hw3
    go_wp2_with (at_builtin; refine Heap.wpList_append_row _ rfl (.tmp 11) (.tmp 14) 60 rfl 9 i0 _ 1 16 Tryz.underlying60 hi hz0 hz1 hz2 rfl (by decide) _ n _ rfl HR3.out ⟨w2.heap.size, 0, none⟩ 2 2 [.string f, .string f] rfl rfl HN3.out (by simp [Value.oneCell']) (by unfold maxLen; omega) (by omega) ?_)
    intro v4 w4 r4 t4 o4
    have HO4 : (∀ k, own v4 k → w.heap.size ≤ k) ∧ Below w.heap.size w w4 := by
      have z1 := HBO.out.1.size; have z2 := HB3.out.size
      have hb := HBO.out.1.trans (HB3.out.mono z1)
      exact ⟨fun k hk => (o4 k hk).elim (HBO.out.2 k) fun h => by omega, hb.trans (t4.below hb.size HBO.out.2)⟩
    obtain ⟨g, off, cap, rfl, hnc, HP⟩ := FIN.out n v4 w2 w2 w4 HN.out r4 HO4.1 HO4.2
    have HP := Lib.hid HP
    clear r4 t4 o4 HO4 HR3 HN3 HB3 HBO
    go_wp2_with fail
    go_ret
    exact HP.out

set_option maxHeartbeats 4000000 in
set_option maxRecDepth 100000 in
theorem kept_str {xs : List Value} {n g off cap : Nat} (hn : xs.length = n) (hl : n ≤ 1048576) (f : ByteArray) (h : Row w 9 1 (.slice (some ⟨g, off, none⟩) (n + 2) cap) (n + 2) (xs ++ [.string f, .string f])) :
    Calls Tryz.prog 36 #[.slice (some ⟨g, off, none⟩) n cap, .string f] w fun e w' => e = .returned (.bool true) ∧ Below w.heap.size w w' := by
  have hc := h.cap_le
  have h2 : n + 2 ≤ cap := hc.1
  have hcz : (cap : Int) ≤ 9223372036854775807 := by have := hc.2; unfold maxLen at this; omega
  have hcz2 : (n : Int) + 2 ≤ cap := by omega
  have hnz : (n : Int) ≤ 1048576 := by omega
  have c0 : w.cell? ⟨g, off + n, none⟩ = some (.string f) := by rw [(h.cell n (by omega)).1, List.getElem?_append_right (by omega), hn]; simp
  have c1 : w.cell? ⟨g, off + (n + 1), none⟩ = some (.string f) := by rw [(h.cell (n + 1) (by omega)).1, List.getElem?_append_right (by omega), hn, show n + 1 - n = 1 by omega]; rfl
  have hnn : (0 : Int) ≤ n := by omega
  clear h hn hc
  go_enter Tryz.func36, Tryz.ntmps36
  go_wp2_with fail
  go_ret
  exact ⟨by simp, Below.refl _ _⟩

set_option maxHeartbeats 4000000 in
set_option maxRecDepth 100000 in
theorem spoil_str {v : Value} {n : Nat} {xs : List Value} (hrow : Row w 9 1 v n xs) (f : ByteArray) :
    Calls Tryz.prog 38 #[v, .string f] w fun e w' => e = .returned (.tuple #[]) ∧ Heap.Touch (own v) w w' := by
  rcases hrow.2 with ⟨rfl, rfl⟩ | ⟨g, off, cap, cur, rfl, hg, hnc, hcm, hsz, _⟩
  · have HF := Lib.hid (Heap.Touch.refl (own (.slice none 0 0)) w)
    clear hrow
    go_enter Tryz.func38, Tryz.ntmps38
    go_wp2_with fail
    go_loopw [11] (fun i wr => i = .int .i64 0 ∧ Hid (Heap.Touch (own (.slice none 0 0)) w wr)) (fun _ _ => 0)
    case atStart => exact ⟨rfl, HF⟩
    case round =>
      obtain ⟨rfl, HT⟩ := hrel
      go_wp2_with fail
      go_end0
      exact ⟨rfl, HT.out⟩
  · have HG1 := Lib.hid (show BlockOf w 9 g (off + cap) from ⟨cur, hg, by omega⟩)
    have HT1 := Lib.hid (Heap.Touch.refl (own (.slice (some ⟨g, off, none⟩) n cap)) w)
    have hcz : (cap : Int) ≤ 9223372036854775807 := by unfold maxLen at hcm; omega
    clear hrow hg hsz hcm
    go_enter Tryz.func38, Tryz.ntmps38
    go_wp2_with fail
    go_loopw [11] (fun i wr => ∃ k : Nat, k ≤ cap ∧ i = .int .i64 k ∧ Hid (BlockOf wr 9 g (off + cap)) ∧ Hid (Heap.Touch (own (.slice (some ⟨g, off, none⟩) n cap)) w wr)) (fun i _ => cap - (intOf i).toNat)
    case atStart => exact ⟨0, Nat.zero_le _, rfl, HG1, HT1⟩
    case round =>
      obtain ⟨k, hk, rfl, HG, HT⟩ := hrel
      clear HG1 HT1
      by_cases hlt : k < cap
      · have hltz : (k : Int) < cap := by omega
        obtain ⟨hfz, hgl⟩ := HG.out.free
        obtain ⟨u0, d0⟩ := HG.out.there (j := off + k) (by omega)
        have HN := Lib.hid (show BlockOf (wr.setCell ⟨g, off + k, none⟩ (.string f)) 9 g (off + cap) ∧ Heap.Touch (own (.slice (some ⟨g, off, none⟩) n cap)) w (wr.setCell ⟨g, off + k, none⟩ (.string f)) from
          ⟨HG.out.set (off + k) (.string f), HT.out.setCell (.inl (by simp [own, Value.ownBlock])) _⟩)
        go_wp2_with fail
        exact ⟨⟨k + 1, by omega, by go_num, Lib.hid HN.out.1, Lib.hid HN.out.2⟩, by simp [intOf]; omega⟩
      · have hltz : ¬ (k : Int) < cap := by omega
        go_wp2_with fail
        go_end0
        exact ⟨rfl, HT.out⟩

theorem one_int : (Tryz.prog.info? 3).map (fun i => (i.zero, i.size, i.bytes)) = some (some (.int .i64 0), 1, 8) := by kernel_rfl

/-- What roomy answers. -/
def Roomyint (w : World) (xs : List Value) (u : Value) (e : Ending) (w' : World) : Prop :=
  ∃ g off cap, e = .returned (.slice (some ⟨g, off, none⟩) xs.length cap) ∧ Row w' 3 1 (.slice (some ⟨g, off, none⟩) (xs.length + 2) cap) (xs.length + 2) (xs ++ [u, u]) ∧ w.heap.size ≤ g ∧ Below w.heap.size w w'

set_option maxHeartbeats 4000000 in
set_option maxRecDepth 100000 in
theorem roomy_int {v : Value} {xs : List Value} (h : Vals w v xs) (h1 : ∀ u ∈ xs, u.oneCell' = true) (hl : xs.length ≤ 1048576) (f : Int) :
    Calls Tryz.prog 33 #[v, .int .i64 f] w (Roomyint w xs (.int .i64 f)) := by
  obtain ⟨i0, hi, hz0, hz1, hz2⟩ := info_parts one_int
  have fin : ∀ (n : Nat) (v3 : Value) (w1 w2 w3 : World), xs.length = n → Row w3 3 1 v3 (n + 2) (xs ++ [.int .i64 f, .int .i64 f]) → (∀ k, own v3 k → w.heap.size ≤ k) → Below w.heap.size w w3 → ∃ g off cap, v3 = .slice (some ⟨g, off, none⟩) (n + 2) cap ∧ n ≤ cap ∧ Roomyint w xs (.int .i64 f) (.returned (.slice (some ⟨g, off, none⟩) n cap)) w3 := by
    intro n v3 _ _ w3 hn hr ho hb
    rcases hr.2 with ⟨_, h0⟩ | ⟨g, off, cap, cur, rfl, h3, h4, h5, h6, h7⟩
    · omega
    · exact ⟨g, off, cap, rfl, by omega, g, off, cap, by rw [hn], by rw [hn]; exact hr, ho g rfl, hb⟩
  have FIN := Lib.hid fin
  have H1 := Lib.hid h1
  clear fin h1
  have rest : ∀ (n : Nat) (v1 v2 : Value) (w1 w2 : World), w1.heap.size ≤ w2.heap.size → w.grownBy w1 none → Row w1 3 1 v1 0 [] → own v1 w.heap.size → Heap.Touch (own v1) w1 w2 → (∀ k, own v2 k → own v1 k ∨ w1.heap.size ≤ k) → Below w.heap.size w w2 ∧ ∀ k, own v2 k → w.heap.size ≤ k := by
    intro n v1 v2 w1 w2 _ hg _ ho ht h2
    have hb1 : Below w.heap.size w w1 := (Below.refl _ _).grown hg (Nat.le_refl _) (by simp)
    have o1 : ∀ k, own v1 k → w.heap.size ≤ k := fun k hk => by
      have : own v1 w.heap.size := ho
      unfold own at hk this
      rw [hk] at this
      simp only [Option.some.injEq] at this
      omega
    exact ⟨hb1.trans (ht.below hb1.size o1), fun k hk => (h2 k hk).elim (o1 k) fun h => Nat.le_trans hb1.size h⟩
  have REST := Lib.hid rest
  clear rest
  rcases h with ⟨c0, rfl, hx⟩ | ⟨a0, c0, rfl, hat⟩
  · subst hx
    have hb2 : i0.bytes * (0 + 3) ≤ 281474976710656 := by rw [hz2]; omega
    have hb3 : 0 + 3 ≤ maxLen := by unfold maxLen; omega
    clear H1
    go_enter Tryz.func33, Tryz.ntmps33
    go_wp2_with (at_make; refine wpList_make_own _ rfl _ _ 22 rfl w.heap.size 3 i0 _ 1 Tryz.underlying22 hi hz0 hz1 _ _ _ (0 + 3) rfl rfl (by omega) hb2 hb3 (Nat.le_refl _) ?_)
    intro w1 hown hgr
    have hrow := Row.of_own hown
    have HROW := Lib.hid hrow; have HGR := Lib.hid hgr
    have hap := fun W => run_append_none W Tryz.prog 22 22 3 i0 Tryz.underlying22 hi w.heap.size 0 0 (0 + 3) c0 (by omega)
    clear hown hrow hgr
    obtain ⟨w3, hw3⟩ : ∃ w3, w3 = w1.alloc (.cells #[.int .i64 f, .int .i64 f] 3) := ⟨_, rfl⟩
    have hb3' : Below w1.heap.size w1 w3 := by rw [hw3]; exact (Below.refl _ _).alloc (Nat.le_refl _) _
    have HR3 := Lib.hid (HROW.out.kept (w' := w3) fun k _ hk => hb3'.block k hk)
    have HN3 := Lib.hid (show ∀ j x, ([.int .i64 f, .int .i64 f] : List Value)[j]? = some x → w3.cell? ((⟨w1.heap.size, 0, none⟩ : Addr).add j) = some x by rw [hw3]; exact news2 w1 _ _)
    have HB3 := Lib.hid hb3'
    subst hw3
    clear hb3'
    go_wp2_with (at_builtin; refine Heap.wpList_append_row _ rfl (.tmp 11) (.tmp 14) 22 rfl 3 i0 _ 1 8 Tryz.underlying22 hi hz0 hz1 hz2 rfl (by decide) _ 0 _ rfl HR3.out ⟨w1.heap.size, 0, none⟩ 2 2 [.int .i64 f, .int .i64 f] rfl rfl HN3.out (by simp [Value.oneCell']) (by unfold maxLen; omega) (by omega) ?_)
    intro v4 w4 r4 t4 o4
    have HBO := REST.out 0 _ v4 w1 w4 (Nat.le_trans HB3.out.size t4.size) HGR.out HROW.out rfl ((Heap.Touch.ofBelow HB3.out).after t4) (fun k hk => (o4 k hk).imp id fun h => Nat.le_of_succ_le (by simpa using h))
    obtain ⟨g, off, cap, rfl, hnc, HP⟩ := FIN.out 0 v4 w1 w1 w4 rfl r4 HBO.2 HBO.1
    have HP := Lib.hid HP
    clear r4 t4 o4 HBO HROW HGR HR3 HN3 HB3 hap
    go_wp2_with fail
    go_ret
    exact HP.out
  · obtain ⟨n, hn⟩ : ∃ n, xs.length = n := ⟨_, rfl⟩
    rw [hn] at hl ⊢
    have HAT := Lib.hid hat; have HN := Lib.hid hn
    have hb2 : i0.bytes * (n + 3) ≤ 281474976710656 := by rw [hz2]; omega
    have hb3 : n + 3 ≤ maxLen := by unfold maxLen; omega
    have hb4 : (n + 2) * 8 ≤ 140737488355328 := by omega
    clear hat hn
    go_enter Tryz.func33, Tryz.ntmps33
    go_wp2_with (at_make; refine wpList_make_own _ rfl _ _ 22 rfl w.heap.size 3 i0 _ 1 Tryz.underlying22 hi hz0 hz1 _ _ _ (n + 3) rfl rfl (by omega) hb2 hb3 (Nat.le_refl _) ?_)
    intro w1 hown hgr
    have hrow := Row.of_own hown
    have hb1 : Below w.heap.size w w1 := (Below.refl _ _).grown hgr (Nat.le_refl _) (by simp)
    have HROW := Lib.hid hrow; have HGR := Lib.hid hgr; have HB1 := Lib.hid hb1
    have HAT1 := Lib.hid (show ∀ j u, xs[j]? = some u → w1.cell? (a0.add j) = some u from fun j u h => (hb1.cell (World.block_lt_of_cell? w _ (HAT.out j u h))).trans (HAT.out j u h))
    clear hown hrow hgr hb1 HAT
    go_wp2_with (at_builtin; refine Heap.wpList_append_row _ rfl (.tmp 9) (.tmp 10) 22 rfl 3 i0 _ 1 8 Tryz.underlying22 hi hz0 hz1 hz2 rfl (by decide) _ 0 _ rfl HROW.out a0 n c0 xs rfl (by rw [HN.out, Nat.mul_one]) HAT1.out H1.out (by unfold maxLen; omega) (by omega) ?_)
    intro v2 w2 r2 t2 o2
    have HBO := Lib.hid (REST.out n _ v2 w1 w2 t2.size HGR.out HROW.out rfl t2 o2)
    have HR2 := Lib.hid r2
    obtain ⟨w3, hw3⟩ : ∃ w3, w3 = w2.alloc (.cells #[.int .i64 f, .int .i64 f] 3) := ⟨_, rfl⟩
    have hb3' : Below w2.heap.size w2 w3 := by rw [hw3]; exact (Below.refl _ _).alloc (Nat.le_refl _) _
    have HR3 := Lib.hid (r2.kept (w' := w3) fun k _ hk => hb3'.block k hk)
    have HN3 := Lib.hid (show ∀ j x, ([.int .i64 f, .int .i64 f] : List Value)[j]? = some x → w3.cell? ((⟨w2.heap.size, 0, none⟩ : Addr).add j) = some x by rw [hw3]; exact news2 w2 _ _)
    have HB3 := Lib.hid hb3'
    clear r2 t2 o2 hb3' HROW HGR HAT1 HR2
    subst hw3
    go_wp2_with (at_builtin; refine Heap.wpList_append_row _ rfl (.tmp 11) (.tmp 14) 22 rfl 3 i0 _ 1 8 Tryz.underlying22 hi hz0 hz1 hz2 rfl (by decide) _ n _ rfl HR3.out ⟨w2.heap.size, 0, none⟩ 2 2 [.int .i64 f, .int .i64 f] rfl rfl HN3.out (by simp [Value.oneCell']) (by unfold maxLen; omega) (by omega) ?_)
    intro v4 w4 r4 t4 o4
    have HO4 : (∀ k, own v4 k → w.heap.size ≤ k) ∧ Below w.heap.size w w4 := by
      have z1 := HBO.out.1.size; have z2 := HB3.out.size
      have hb := HBO.out.1.trans (HB3.out.mono z1)
      exact ⟨fun k hk => (o4 k hk).elim (HBO.out.2 k) fun h => by omega, hb.trans (t4.below hb.size HBO.out.2)⟩
    obtain ⟨g, off, cap, rfl, hnc, HP⟩ := FIN.out n v4 w2 w2 w4 HN.out r4 HO4.1 HO4.2
    have HP := Lib.hid HP
    clear r4 t4 o4 HO4 HR3 HN3 HB3 HBO
    go_wp2_with fail
    go_ret
    exact HP.out

set_option maxHeartbeats 4000000 in
set_option maxRecDepth 100000 in
theorem kept_int {xs : List Value} {n g off cap : Nat} (hn : xs.length = n) (hl : n ≤ 1048576) (f : Int) (h : Row w 3 1 (.slice (some ⟨g, off, none⟩) (n + 2) cap) (n + 2) (xs ++ [.int .i64 f, .int .i64 f])) :
    Calls Tryz.prog 37 #[.slice (some ⟨g, off, none⟩) n cap, .int .i64 f] w fun e w' => e = .returned (.bool true) ∧ Below w.heap.size w w' := by
  have hc := h.cap_le
  have h2 : n + 2 ≤ cap := hc.1
  have hcz : (cap : Int) ≤ 9223372036854775807 := by have := hc.2; unfold maxLen at this; omega
  have hcz2 : (n : Int) + 2 ≤ cap := by omega
  have hnz : (n : Int) ≤ 1048576 := by omega
  have c0 : w.cell? ⟨g, off + n, none⟩ = some (.int .i64 f) := by rw [(h.cell n (by omega)).1, List.getElem?_append_right (by omega), hn]; simp
  have c1 : w.cell? ⟨g, off + (n + 1), none⟩ = some (.int .i64 f) := by rw [(h.cell (n + 1) (by omega)).1, List.getElem?_append_right (by omega), hn, show n + 1 - n = 1 by omega]; rfl
  have hnn : (0 : Int) ≤ n := by omega
  clear h hn hc
  go_enter Tryz.func37, Tryz.ntmps37
  go_wp2_with fail
  go_ret
  exact ⟨by simp, Below.refl _ _⟩

set_option maxHeartbeats 4000000 in
set_option maxRecDepth 100000 in
theorem spoil_int {v : Value} {n : Nat} {xs : List Value} (hrow : Row w 3 1 v n xs) (f : Int) :
    Calls Tryz.prog 39 #[v, .int .i64 f] w fun e w' => e = .returned (.tuple #[]) ∧ Heap.Touch (own v) w w' := by
  rcases hrow.2 with ⟨rfl, rfl⟩ | ⟨g, off, cap, cur, rfl, hg, hnc, hcm, hsz, _⟩
  · have HF := Lib.hid (Heap.Touch.refl (own (.slice none 0 0)) w)
    clear hrow
    go_enter Tryz.func39, Tryz.ntmps39
    go_wp2_with fail
    go_loopw [11] (fun i wr => i = .int .i64 0 ∧ Hid (Heap.Touch (own (.slice none 0 0)) w wr)) (fun _ _ => 0)
    case atStart => exact ⟨rfl, HF⟩
    case round =>
      obtain ⟨rfl, HT⟩ := hrel
      go_wp2_with fail
      go_end0
      exact ⟨rfl, HT.out⟩
  · have HG1 := Lib.hid (show BlockOf w 3 g (off + cap) from ⟨cur, hg, by omega⟩)
    have HT1 := Lib.hid (Heap.Touch.refl (own (.slice (some ⟨g, off, none⟩) n cap)) w)
    have hcz : (cap : Int) ≤ 9223372036854775807 := by unfold maxLen at hcm; omega
    clear hrow hg hsz hcm
    go_enter Tryz.func39, Tryz.ntmps39
    go_wp2_with fail
    go_loopw [11] (fun i wr => ∃ k : Nat, k ≤ cap ∧ i = .int .i64 k ∧ Hid (BlockOf wr 3 g (off + cap)) ∧ Hid (Heap.Touch (own (.slice (some ⟨g, off, none⟩) n cap)) w wr)) (fun i _ => cap - (intOf i).toNat)
    case atStart => exact ⟨0, Nat.zero_le _, rfl, HG1, HT1⟩
    case round =>
      obtain ⟨k, hk, rfl, HG, HT⟩ := hrel
      clear HG1 HT1
      by_cases hlt : k < cap
      · have hltz : (k : Int) < cap := by omega
        obtain ⟨hfz, hgl⟩ := HG.out.free
        obtain ⟨u0, d0⟩ := HG.out.there (j := off + k) (by omega)
        have HN := Lib.hid (show BlockOf (wr.setCell ⟨g, off + k, none⟩ (.int .i64 f)) 3 g (off + cap) ∧ Heap.Touch (own (.slice (some ⟨g, off, none⟩) n cap)) w (wr.setCell ⟨g, off + k, none⟩ (.int .i64 f)) from
          ⟨HG.out.set (off + k) (.int .i64 f), HT.out.setCell (.inl (by simp [own, Value.ownBlock])) _⟩)
        go_wp2_with fail
        exact ⟨⟨k + 1, by omega, by go_num, Lib.hid HN.out.1, Lib.hid HN.out.2⟩, by simp [intOf]; omega⟩
      · have hltz : ¬ (k : Int) < cap := by omega
        go_wp2_with fail
        go_end0
        exact ⟨rfl, HT.out⟩
end
end Go.Proofs.YtbgchhgdlceceaaGreatDoor.Own
