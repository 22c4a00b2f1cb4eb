/- Parts of the proof, joined: Decode, walked: whatever is handed in.; Rows of records: a row of the program's, its cells; a record as a value; slices.Equal of records; note.; A block's records: what is told of scanning it, in plain Lean; blog.scan, walked. -/
import Derived.Test.YtbgchhgdlceceaaGreatDoorStrmBaseM6
import Derived.Laws.StructEq
import Derived.BigRegion
import Derived.Lib.SliceRun
namespace Go.Proofs.YtbgchhgdlceceaaGreatDoor.Rec
open Go.RowKit Subj Pack Crc

theorem size_list (l : List UInt8) : (⟨l.toArray⟩ : ByteArray).size = l.length := by
  show l.toArray.size = _
  simp

theorem decL_body {l : List UInt8} {t : List UInt8} {k : Nat} (h : rdT l 1024 = (t, k, 0)) (hk : k + 4 ≤ l.length) : decL l = bodyV ⟨t.toArray⟩ k l := by
  unfold decL bodyV
  rw [h]
  simp only [ne_eq, not_true_eq_false, if_false]
  rw [if_neg (by omega)]
  show (match t with | [] => _ | x :: rest => _) = (if _ then _ else match t with | [] => _ | x :: rest => _)
  cases t with
  | nil => simp
  | cons x rest => rfl

set_option maxRecDepth 100000 in
theorem decode_err (s : ByteArray) (n : Nat) (hn : n ≠ 0) (w : World) (hR : ∀ w, Calls Tryz.prog 215 #[.string s, .int .i64 1024] w fun e w' => e = .returned (.tuple #[.string ByteArray.empty, .int .i64 0, .int .i64 n]) ∧ w = w') :
    Calls Tryz.prog 172 #[.string s] w fun e w' => e = .returned (ErrV n) ∧ Below w.heap.size w w' := by
  have HR := Lib.hid hR; clear hR
  have h1 : ((n : Int) != 0) = true := by simp; omega
  go_enter Tryz.func172, Tryz.ntmps172
  go_wp2_with (go_at_call 215; refine (HR.out _).mono ?_; rintro e w' ⟨rfl, rfl⟩)
  go_returns
  exact ⟨errV_eq rfl n, by go_grown⟩

set_option maxRecDepth 100000 in
theorem decode_short (s B : ByteArray) (k : Nat) (w : World) (_hs : s.size ≤ maxLen) (hk : k ≤ s.size) (hlt : s.size < k + 4) (hR : ∀ w, Calls Tryz.prog 215 #[.string s, .int .i64 1024] w fun e w' => e = .returned (.tuple #[.string B, .int .i64 k, .int .i64 0]) ∧ w = w') :
    Calls Tryz.prog 172 #[.string s] w fun e w' => e = .returned (ErrV 6) ∧ Below w.heap.size w w' := by
  have HR := Lib.hid hR; clear hR
  unfold maxLen at _hs
  go_enter Tryz.func172, Tryz.ntmps172
  go_wp2_with (go_at_call 215; refine (HR.out _).mono ?_; rintro e w' ⟨rfl, rfl⟩)
  go_returns
  exact ⟨errV_eq rfl 6, by go_grown⟩

set_option maxHeartbeats 2000000 in
set_option maxRecDepth 100000 in
theorem decode_empty (s : ByteArray) (k : Nat) (w : World) (hs : s.size ≤ maxLen) (hlen : k + 4 ≤ s.size) (hR : ∀ w, Calls Tryz.prog 215 #[.string s, .int .i64 1024] w fun e w' => e = .returned (.tuple #[.string ByteArray.empty, .int .i64 k, .int .i64 0]) ∧ w = w') :
    Calls Tryz.prog 172 #[.string s] w fun e w' => e = .returned (ErrV 7) ∧ Below w.heap.size w w' := by
  have HR := Lib.hid hR; clear hR
  unfold maxLen at hs
  have i0 : (0 : Int) ≤ (k : Int) := by omega
  have i1 : (k : Int) < (s.size : Int) := by omega
  have i2 : (k : Int) + 1 < (s.size : Int) := by omega
  have i3 : (k : Int) + 2 < (s.size : Int) := by omega
  have i4 : (k : Int) + 3 < (s.size : Int) := by omega
  have w1 : IntKind.i64.wrap ((k : Int) + 1) = (k : Int) + 1 := IntWalk.i64_in _ (by omega)
  have v1 : (0 : Int) ≤ (k : Int) + 1 := by omega
  have u1 : ((k : Int) + 1).toNat = k + 1 := by omega
  have w2 : IntKind.i64.wrap ((k : Int) + 2) = (k : Int) + 2 := IntWalk.i64_in _ (by omega)
  have v2 : (0 : Int) ≤ (k : Int) + 2 := by omega
  have u2 : ((k : Int) + 2).toNat = k + 2 := by omega
  have w3 : IntKind.i64.wrap ((k : Int) + 3) = (k : Int) + 3 := IntWalk.i64_in _ (by omega)
  have v3 : (0 : Int) ≤ (k : Int) + 3 := by omega
  have u3 : ((k : Int) + 3).toNat = k + 3 := by omega
  have HN := Lib.hid (num4_bits s[k] s[k + 1] s[k + 2] s[k + 3])
  generalize num4 s[k] s[k + 1] s[k + 2] s[k + 3] = N at HN
  go_enter Tryz.func172, Tryz.ntmps172
  go_wp2_with (go_at_call 215; refine (HR.out _).mono ?_; rintro e w' ⟨rfl, rfl⟩)
  go_quiet (fail)
  rw [HN.out]
  clear HN
  go_wp2_with fail
  go_returns
  exact ⟨errV_eq rfl 7, by go_grown; exact below_drewN (by go_grown) _⟩

theorem decV_zero (n : Nat) : decV (Rc.zero, 0, n) = ErrV n := rfl

theorem decode_any (s : ByteArray) (w : World) (hs : s.size ≤ maxLen) (hm : ML w) :
    Calls Tryz.prog 172 #[.string s] w fun e w' => e = .returned (decV (decL s.data.toList)) ∧ Below w.heap.size w w' := by
  have hl : s.data.toList.length = s.size := by simp
  have hR := fun w => readText_any s 1024 w hs
  rcases rdT_cases s.data.toList 1024 with ⟨t, k, e, h1, h2, h3, h4, h5⟩ | e | e
  · rw [e] at hR
    rw [hl] at h3
    have hR' : ∀ w, Calls Tryz.prog 215 #[.string s, .int .i64 1024] w fun e w' => e = .returned (.tuple #[.string ⟨t.toArray⟩, .int .i64 k, .int .i64 0]) ∧ w = w' := hR
    by_cases hlen : k + 4 ≤ s.size
    · rw [decL_body e (by omega)]
      by_cases ht : t = []
      · subst ht
        refine (decode_empty s k w hs hlen hR').mono fun e w' ⟨a, b⟩ => ⟨?_, b⟩
        rw [a, ← decV_zero]
        unfold bodyV
        split <;> rfl
      · have hb2 : (⟨t.toArray⟩ : ByteArray).size ≤ 1024 := by rw [size_list]; omega
        have hb3 : 0 < (⟨t.toArray⟩ : ByteArray).size := by rw [size_list]; exact List.length_pos_iff.2 ht
        by_cases hq : (s.data.toList.drop k).take 4 = sum4 t
        · exact decode_good s ⟨t.toArray⟩ k w hs hm hR' hq hb2 hb3 hlen
        · exact decode_wrong s ⟨t.toArray⟩ k w hs hm hR' hq hb2 hb3 hlen
    · have hd : decL s.data.toList = (Rc.zero, 0, 6) := by
        unfold decL
        rw [e]
        simp only [ne_eq, not_true_eq_false, if_false]
        rw [if_pos (by omega)]
      rw [hd]
      exact decode_short s ⟨t.toArray⟩ k w hs h3 (by omega) hR'
  · rw [e] at hR
    have hd : decL s.data.toList = (Rc.zero, 0, 6) := by unfold decL; rw [e]; rfl
    rw [hd]
    exact decode_err s 6 (by decide) w hR
  · rw [e] at hR
    have hd : decL s.data.toList = (Rc.zero, 0, 7) := by unfold decL; rw [e]; rfl
    rw [hd]
    exact decode_err s 7 (by decide) w hR
end Go.Proofs.YtbgchhgdlceceaaGreatDoor.Rec

namespace Go.Proofs.YtbgchhgdlceceaaGreatDoor.Sto
open Go.RowKit Heap
open Subj (ML)
open Rec (Rc recErr far recA rcOf)

def recC (r : Rc) : List Value := [.int .i64 r.kind, .int .i64 r.seq, .int .i64 r.time, .string ⟨r.subj.toArray⟩, .string ⟨r.head.toArray⟩, .string ⟨r.data.toArray⟩]
def recsV (L : List Rc) : List Value := L.flatMap recC

theorem recsV_cons (r : Rc) (L : List Rc) : recsV (r :: L) = recC r ++ recsV L := rfl
theorem recsV_len (L : List Rc) : (recsV L).length = L.length * 6 := by
  induction L with
  | nil => rfl
  | cons p l ih =>
    rw [recsV_cons, List.length_append, ih]
    simp [recC]; omega
theorem recsV_append (a b : List Rc) : recsV (a ++ b) = recsV a ++ recsV b := by simp [recsV]
theorem recsV_one (L : List Rc) : ∀ u ∈ recsV L, u.oneCell' = true := by
  intro u hu
  obtain ⟨e, _, h⟩ := List.mem_flatMap.1 hu
  simp only [recC, List.mem_cons, List.not_mem_nil, or_false] at h
  rcases h with rfl | rfl | rfl | rfl | rfl | rfl <;> rfl
theorem recsV_take (A : List Rc) (k : Nat) : (recsV A).take (k * 6) = recsV (A.take k) := by
  induction A generalizing k with
  | nil => simp [recsV]
  | cons a r ih =>
    cases k with
    | zero => simp [recsV]
    | succ k =>
      have hl : (recC a).length = 6 := rfl
      rw [recsV_cons, List.take_append, hl, show (k + 1) * 6 - 6 = k * 6 by omega, ih, List.take_of_length_le (by rw [hl]; omega)]
      rfl
theorem recsV_drop (A : List Rc) (k : Nat) : (recsV A).drop (k * 6) = recsV (A.drop k) := by
  induction A generalizing k with
  | nil => simp [recsV]
  | cons a r ih =>
    cases k with
    | zero => simp [recsV]
    | succ k =>
      have hl : (recC a).length = 6 := rfl
      rw [recsV_cons, List.drop_append, hl, show (k + 1) * 6 - 6 = k * 6 by omega, ih, List.drop_of_length_le (by rw [hl]; omega)]
      rfl
theorem recsV_at (l : List Rc) (k : Nat) (p : Rc) (h : l[k]? = some p) (i : Nat) (hi : i < 6) : (recsV l)[k * 6 + i]? = (recC p)[i]? := by
  induction l generalizing k with
  | nil => simp at h
  | cons q l ih =>
    rw [recsV_cons]
    cases k with
    | zero =>
      simp at h; subst h
      rw [List.getElem?_append_left (by simp [recC]; omega)]
      simp
    | succ k =>
      rw [List.getElem?_append_right (by simp [recC]; omega)]
      rw [show (k + 1) * 6 + i - (recC q).length = k * 6 + i by simp [recC]; omega]
      exact ih k (by simpa using h)

/-- A record's cells in a row of records. -/
theorem cells_rec {w : World} {g off n cap : Nat} {l : List Rc} (h : Row w 33 6 (.slice (some ⟨g, off, none⟩) n cap) n (recsV l)) (k : Nat) (p : Rc) (hp : l[k]? = some p) (hk : k < n) :
    w.cell? ⟨g, off + k * 6, none⟩ = some (.int .i64 p.kind) ∧ w.cell? ⟨g, off + k * 6 + 1, none⟩ = some (.int .i64 p.seq) ∧ w.cell? ⟨g, off + k * 6 + 2, none⟩ = some (.int .i64 p.time) ∧
      w.cell? ⟨g, off + k * 6 + 3, none⟩ = some (.string ⟨p.subj.toArray⟩) ∧ w.cell? ⟨g, off + k * 6 + 4, none⟩ = some (.string ⟨p.head.toArray⟩) ∧ w.cell? ⟨g, off + k * 6 + 5, none⟩ = some (.string ⟨p.data.toArray⟩) := by
  have e : ∀ i, i < 6 → w.cell? ⟨g, off + k * 6 + i, none⟩ = (recC p)[i]? := fun i hi => by
    rw [show off + k * 6 + i = off + (k * 6 + i) by omega, (h.cell (k * 6 + i) (by omega)).1, recsV_at l k p hp i hi]
  exact ⟨e 0 (by omega), e 1 (by omega), e 2 (by omega), e 3 (by omega), e 4 (by omega), e 5 (by omega)⟩

/-- A record as a value, of six parts that are told apart. -/
structure Parts (r : Rc) (s h d : ByteArray) : Prop where
  s1 : (⟨r.subj.toArray⟩ : ByteArray) = s
  h1 : (⟨r.head.toArray⟩ : ByteArray) = h
  d1 : (⟨r.data.toArray⟩ : ByteArray) = d
  s2 : s.data.toList = r.subj
  h2 : h.data.toList = r.head
  d2 : d.data.toList = r.data
  s3 : s.size = r.subj.length
  h3 : h.size = r.head.length
  d3 : d.size = r.data.length

theorem parts (r : Rc) : ∃ s h d, Parts r s h d := ⟨_, _, _, rfl, rfl, rfl, by simp, by simp, by simp, by show r.subj.toArray.size = _; simp, by show r.head.toArray.size = _; simp, by show r.data.toArray.size = _; simp⟩

theorem Parts.rc {r : Rc} {s h d : ByteArray} (p : Parts r s h d) : rcOf r.kind r.seq r.time s h d = r := by
  unfold rcOf
  rw [p.s2, p.h2, p.d2]

/-- A record as a value. -/
def recV (r : Rc) : Value := .agg #[.int .i64 r.kind, .int .i64 r.seq, .int .i64 r.time, .string ⟨r.subj.toArray⟩, .string ⟨r.head.toArray⟩, .string ⟨r.data.toArray⟩]

/-- A record of texts that are not too long. -/
structure Fits (r : Rc) : Prop where
  s : r.subj.length ≤ 1048576
  h : r.head.length ≤ 1048576
  d : r.data.length ≤ 1048576

theorem sixC {bx : Nat} {a0 a1 a2 a3 a4 a5 : Value} {t : TypeId} {w : World} (h : w.heap[bx]? = some (.cells #[a0, a1, a2, a3, a4, a5] t (0, 0))) :
    w.cell? ⟨bx, 0, none⟩ = some a0 ∧ w.cell? ⟨bx, 1, none⟩ = some a1 ∧ w.cell? ⟨bx, 2, none⟩ = some a2 ∧ w.cell? ⟨bx, 3, none⟩ = some a3 ∧ w.cell? ⟨bx, 4, none⟩ = some a4 ∧ w.cell? ⟨bx, 5, none⟩ = some a5 := by
  refine ⟨?_, ?_, ?_, ?_, ?_, ?_⟩
  · rw [cell_of_row w bx 0 _ _ _ h]; rfl
  · rw [cell_of_row w bx 1 _ _ _ h]; rfl
  · rw [cell_of_row w bx 2 _ _ _ h]; rfl
  · rw [cell_of_row w bx 3 _ _ _ h]; rfl
  · rw [cell_of_row w bx 4 _ _ _ h]; rfl
  · rw [cell_of_row w bx 5 _ _ _ h]; rfl

theorem info_rec : (Tryz.prog.info? 33).map (fun i => (i.zero, i.size, i.bytes)) = some (some (Value.agg #[.int .i64 0, .int .i64 0, .int .i64 0, .string ⟨#[]⟩, .string ⟨#[]⟩, .string ⟨#[]⟩]), 6, 72) := by kernel_rfl

theorem news_rec (w : World) (a0 a1 a2 a3 a4 a5 : Value) (t : TypeId) : ∀ j u, ([a0, a1, a2, a3, a4, a5] : List Value)[j]? = some u → (w.alloc (.cells #[a0, a1, a2, a3, a4, a5] t)).cell? ((⟨w.heap.size, 0, none⟩ : Addr).add j) = some u := fun j u hj => by
  rw [Addr.add_lit, cell_of_row _ w.heap.size (0 + j) _ _ _ (heap_alloc_new w _), Nat.zero_add]
  rcases j with _ | _ | _ | _ | _ | _ | j
  · simpa using hj
  · simpa using hj
  · simpa using hj
  · simpa using hj
  · simpa using hj
  · simpa using hj
  · simp at hj

/-- Records side by side somewhere. -/
def RecsAt (w : World) (v : Value) (l : List Rc) : Prop := ∃ ao cap, v = .slice ao l.length cap ∧ (l ≠ [] → ∃ g off, ao = some ⟨g, off, none⟩ ∧ ∀ i p, l[i]? = some p →
  w.cell? ⟨g, off + i * 6, none⟩ = some (.int .i64 p.kind) ∧ w.cell? ⟨g, off + i * 6 + 1, none⟩ = some (.int .i64 p.seq) ∧ w.cell? ⟨g, off + i * 6 + 2, none⟩ = some (.int .i64 p.time) ∧
      w.cell? ⟨g, off + i * 6 + 3, none⟩ = some (.string ⟨p.subj.toArray⟩) ∧ w.cell? ⟨g, off + i * 6 + 4, none⟩ = some (.string ⟨p.head.toArray⟩) ∧ w.cell? ⟨g, off + i * 6 + 5, none⟩ = some (.string ⟨p.data.toArray⟩))

theorem row_recs {w : World} {v : Value} {l : List Rc} (h : Row w 33 6 v l.length (recsV l)) : RecsAt w v l := by
  have h0 := h
  rcases h.2 with ⟨rfl, e⟩ | ⟨g, off, cap, cur, rfl, hg, hle, _⟩
  · exact ⟨none, 0, by rw [e], fun hne => absurd (List.eq_nil_of_length_eq_zero e) hne⟩
  · exact ⟨_, cap, rfl, fun _ => ⟨g, off, rfl, fun i p hp => cells_rec h0 i p hp (List.getElem?_eq_some_iff.1 hp).1⟩⟩

theorem RecsAt.below {w w' : World} {v : Value} {l : List Rc} {n : Nat} (h : RecsAt w v l) (hb : Below n w w') (hn : w.heap.size ≤ n) : RecsAt w' v l := by
  obtain ⟨ao, cap, rfl, ha⟩ := h
  refine ⟨ao, cap, rfl, fun hne => ?_⟩
  obtain ⟨g, off, rfl, hc⟩ := ha hne
  refine ⟨g, off, rfl, fun i p hp => ?_⟩
  obtain ⟨c0, c1, c2, c3, c4, c5⟩ := hc i p hp
  have hg : g < w.heap.size := World.block_lt_of_cell? w _ c0
  have hblk := hb.block g (by omega)
  exact ⟨(World.cell?_of_block (a := ⟨g, off + i * 6, none⟩) hblk).trans c0, (World.cell?_of_block (a := ⟨g, off + i * 6 + 1, none⟩) hblk).trans c1, (World.cell?_of_block (a := ⟨g, off + i * 6 + 2, none⟩) hblk).trans c2, (World.cell?_of_block (a := ⟨g, off + i * 6 + 3, none⟩) hblk).trans c3, (World.cell?_of_block (a := ⟨g, off + i * 6 + 4, none⟩) hblk).trans c4, (World.cell?_of_block (a := ⟨g, off + i * 6 + 5, none⟩) hblk).trans c5⟩

theorem RecsAt.touch {w w' : World} {v : Value} {l : List Rc} {F : Nat → Prop} (h : RecsAt w v l) (ht : Heap.Touch F w w') (hn : ∀ k, own v k → ¬ F k) : RecsAt w' v l := by
  obtain ⟨ao, cap, rfl, ha⟩ := h
  refine ⟨ao, cap, rfl, fun hne => ?_⟩
  obtain ⟨g, off, rfl, hc⟩ := ha hne
  refine ⟨g, off, rfl, fun i p hp => ?_⟩
  obtain ⟨c0, c1, c2, c3, c4, c5⟩ := hc i p hp
  have hg : g < w.heap.size := World.block_lt_of_cell? w _ c0
  have hblk := ht.block g hg (hn g (by simp [own, Value.ownBlock]))
  exact ⟨(World.cell?_of_block (a := ⟨g, off + i * 6, none⟩) hblk).trans c0, (World.cell?_of_block (a := ⟨g, off + i * 6 + 1, none⟩) hblk).trans c1, (World.cell?_of_block (a := ⟨g, off + i * 6 + 2, none⟩) hblk).trans c2, (World.cell?_of_block (a := ⟨g, off + i * 6 + 3, none⟩) hblk).trans c3, (World.cell?_of_block (a := ⟨g, off + i * 6 + 4, none⟩) hblk).trans c4, (World.cell?_of_block (a := ⟨g, off + i * 6 + 5, none⟩) hblk).trans c5⟩

section
variable {w : World}

set_option maxHeartbeats 2000000 in
set_option maxRecDepth 100000 in
theorem equal_recs {v1 v2 : Value} {l : List Rc} (h1 : RecsAt w v1 l) (h2 : RecsAt w v2 l) (hl : l.length ≤ 100000) :
    Calls Tryz.prog 45 #[v1, v2] w fun e w' => e = .returned (.bool true) ∧ ∃ q, w' = w.drewN q := by
  obtain ⟨n, hn⟩ : ∃ n, l.length = n := ⟨_, rfl⟩
  obtain ⟨a1, c1, rfl, hx1⟩ := h1
  obtain ⟨a2, c2, rfl, hx2⟩ := h2
  rw [hn] at hl ⊢
  have H1 := Lib.hid hx1; have H2 := Lib.hid hx2; have HN := Lib.hid hn
  clear hx1 hx2 hn
  go_enter Tryz.func45, Tryz.ntmps45
  go_wp2_with fail
  go_loopw [13] (fun i wr => ∃ k : Nat, k ≤ n ∧ i = .int .i64 k ∧ ∃ q, wr = w.drewN q) (fun i _ => n - (intOf i).toNat)
  case atStart => exact ⟨0, Nat.zero_le _, rfl, 0, rfl⟩
  case round =>
    obtain ⟨k, hk, rfl, q, rfl⟩ := hrel
    by_cases hlt : k < n
    · have hltz : (k : Int) < n := by omega
      obtain ⟨p, hp⟩ : ∃ p, l[k]? = some p := ⟨_, List.getElem?_eq_getElem (by rw [HN.out]; exact hlt)⟩
      have hne : l ≠ [] := fun e => by rw [e] at hp; simp at hp
      obtain ⟨g1, o1, rfl, y1⟩ := H1.out hne
      obtain ⟨g2, o2, rfl, y2⟩ := H2.out hne
      obtain ⟨d0, d1, d2, d3, d4, d5⟩ := y1 k p hp
      obtain ⟨b0, b1, b2, b3, b4, b5⟩ := y2 k p hp
      obtain ⟨s, h, d, hpp⟩ := parts p
      rw [hpp.s1] at d3 b3
      rw [hpp.h1] at d4 b4
      rw [hpp.d1] at d5 b5
      generalize p.kind = z0 at d0 b0
      generalize p.seq = z1 at d1 b1
      generalize p.time = z2 at d2 b2
      clear hp hpp hne y1 y2
      go_wp2_with fail
      go_quiet (fail)
      go_wp2_with fail
      exact ⟨⟨k + 1, by omega, by go_num, _, rfl⟩, by simp [intOf]; omega⟩
    · have hltz : ¬ (k : Int) < n := by omega
      go_wp2_with fail
      go_ret
      exact ⟨rfl, _, rfl⟩
end

theorem set6 {w : World} {R : Nat} {b0 b1 b2 b3 b4 b5 : Value} {t : TypeId} (a0 a1 a2 a3 a4 a5 : Value) (hR : w.heap[R]? = some (.cells #[b0, b1, b2, b3, b4, b5] t (0, 0))) :
    ((((((w.setCell ⟨R, 0, none⟩ a0).setCell ⟨R, 1, none⟩ a1).setCell ⟨R, 2, none⟩ a2).setCell ⟨R, 3, none⟩ a3).setCell ⟨R, 4, none⟩ a4).setCell ⟨R, 5, none⟩ a5).heap[R]? = some (.cells #[a0, a1, a2, a3, a4, a5] t (0, 0)) := by
  have h1 := heap_setCell_same w R 0 _ _ a0 hR
  have h2 := heap_setCell_same _ R 1 _ _ a1 h1
  have h3 := heap_setCell_same _ R 2 _ _ a2 h2
  have h4 := heap_setCell_same _ R 3 _ _ a3 h3
  have h5 := heap_setCell_same _ R 4 _ _ a4 h4
  exact heap_setCell_same _ R 5 _ _ a5 h5

def noteR (q : Int) : Rc := ⟨1, q, 0, [97, 46, 98], [], [120]⟩

section
variable {w : World}
end

end Go.Proofs.YtbgchhgdlceceaaGreatDoor.Sto

namespace Go.Proofs.YtbgchhgdlceceaaGreatDoor.Log
open Go.RowKit Heap
open Subj (ML)
open Rec (Rc decL decV decode_any)
open Sto (recsV recsV_len recsV_append recC parts sixC info_rec news_rec)

theorem decL_size {s : List UInt8} (h : (decL s).2.2 = 0) : 4 ≤ (decL s).2.1 ∧ (decL s).2.1 ≤ s.length := by
  unfold decL at h ⊢
  split
  · rename_i h1; rw [if_pos h1] at h; exact absurd h h1
  · rename_i h1
    rw [if_neg h1] at h
    split
    · rename_i h2; rw [if_pos h2] at h; cases h
    · rename_i h2
      rw [if_neg h2] at h
      split
      · rename_i h3; rw [h3] at h; cases h
      · rename_i k rest h3
        rw [h3] at h
        simp only at h
        split
        · rename_i h4; rw [if_pos h4] at h; cases h
        · rename_i h4
          rw [if_neg h4] at h
          unfold Rec.bodyR at h ⊢
          split
          · simp only; omega
          · rename_i h5; rw [if_neg h5] at h; cases h

theorem scanF_fuel : ∀ (f : Nat) (s : List UInt8), s.length ≤ f → scanF f s = scanF s.length s
  | 0, s, h => by
    have e : s = [] := List.eq_nil_of_length_eq_zero (by omega)
    subst e; rfl
  | f + 1, s, h => by
    cases s with
    | nil => rfl
    | cons b r =>
      show scanF (f + 1) (b :: r) = scanF (r.length + 1) (b :: r)
      unfold scanF
      rw [if_neg (show ¬ (b :: r = []) by simp), if_neg (show ¬ (b :: r = []) by simp)]
      by_cases he : (decL (b :: r)).2.2 = 0
      · rw [if_neg (not_not_intro he), if_neg (not_not_intro he)]
        have hz := decL_size he
        have hl : ((b :: r).drop (decL (b :: r)).2.1).length ≤ r.length := by rw [List.length_drop, List.length_cons]; omega
        rw [scanF_fuel f _ (by rw [List.length_cons] at h; omega), ← scanF_fuel r.length _ hl]
      · rw [if_pos he, if_pos he]
termination_by f => f

theorem scan_nil : scan [] = ([], 0) := rfl

theorem scan_bad {s : List UInt8} (h : (decL s).2.2 ≠ 0) : scan s = ([], 0) := by
  unfold scan
  cases s with
  | nil => rfl
  | cons b r =>
    show scanF (r.length + 1) (b :: r) = _
    unfold scanF
    rw [if_neg (show ¬ (b :: r = []) by simp), if_pos h]

theorem scan_step {s : List UInt8} (hs : s ≠ []) (h : (decL s).2.2 = 0) : scan s = ((decL s).1 :: (scan (s.drop (decL s).2.1)).1, (decL s).2.1 + (scan (s.drop (decL s).2.1)).2) := by
  unfold scan
  cases s with
  | nil => exact absurd rfl hs
  | cons b r =>
    have hz := decL_size h
    have e : scanF (b :: r).length (b :: r) = _ := show scanF (r.length + 1) (b :: r) = _ by
      unfold scanF
      rw [if_neg (show ¬ (b :: r = []) by simp), if_neg (not_not_intro h)]
    rw [e, scanF_fuel r.length _ (by rw [List.length_drop, List.length_cons]; omega)]

/-- The scan, as far as it has come. -/
def ScanAt (S : List UInt8) (A : List Rc) (a : Nat) : Prop := scan S = (A ++ (scan (S.drop a)).1, a + (scan (S.drop a)).2) ∧ a ≤ S.length ∧ A.length * 4 ≤ a

theorem ScanAt.zero (S : List UInt8) : ScanAt S [] 0 := ⟨by simp, Nat.zero_le _, by simp⟩

theorem ScanAt.next {S : List UInt8} {A : List Rc} {a : Nat} (h : ScanAt S A a) (ha : a < S.length) (he : (decL (S.drop a)).2.2 = 0) : ScanAt S (A ++ [(decL (S.drop a)).1]) (a + (decL (S.drop a)).2.1) := by
  have hz := decL_size he
  rw [List.length_drop] at hz
  have hne : S.drop a ≠ [] := fun e => by have := congrArg List.length e; rw [List.length_drop, List.length_nil] at this; omega
  refine ⟨?_, by omega, by rw [List.length_append, List.length_singleton]; have := h.2.2; omega⟩
  rw [h.1, scan_step hne he, List.drop_drop]
  simp only [List.append_assoc, List.singleton_append, Nat.add_assoc]

theorem ScanAt.end_ {S : List UInt8} {A : List Rc} {a : Nat} (h : ScanAt S A a) (he : a = S.length ∨ (decL (S.drop a)).2.2 ≠ 0) : scan S = (A, a) := by
  have : scan (S.drop a) = ([], 0) := by
    rcases he with rfl | he
    · rw [List.drop_length]; rfl
    · exact scan_bad he
  rw [h.1, this]; simp

/-- Records of one's own, and how many bytes. -/
def ScanPost (w : World) (o : List Rc × Nat) (e : Ending) (w' : World) : Prop :=
  ∃ v, e = .returned (.tuple #[v, .int .i64 (o.2 : Nat)]) ∧ Row w' 33 6 v o.1.length (recsV o.1) ∧ (∀ k, own v k → w.heap.size ≤ k) ∧ Below w.heap.size w w'

section
variable {w : World}

set_option maxHeartbeats 4000000 in
set_option maxRecDepth 100000 in
theorem scan_any (s : ByteArray) (hs : s.size ≤ 1048576) (hm : ML w) : Calls Tryz.prog 109 #[.string s] w (ScanPost w (scan s.data.toList)) := by
  have hsl : s.data.toList.length = s.size := Array.length_toList
  have HSL := Lib.hid hsl; have HML := Lib.hid hm
  obtain ⟨O, hO⟩ : ∃ O, scan s.data.toList = O := ⟨_, rfl⟩
  rw [hO]
  have HO := Lib.hid hO
  clear hO hm hsl
  obtain ⟨i0, hi, hz0, hz1, hz2⟩ := info_parts info_rec
  go_enter Tryz.func109, Tryz.ntmps109
  go_wp2_with fail
  go_loopw [4, 5] (fun o a wr => ∃ (A : List Rc) (k : Nat), a = .int .i64 k ∧ k ≤ s.size ∧ Hid (ScanAt s.data.toList A k) ∧ Hid (Row wr 33 6 o A.length (recsV A) ∧ (∀ j, own o j → w.heap.size ≤ j) ∧ Below w.heap.size w wr)) (fun _ a _ => s.size - (intOf a).toNat)
  case atStart => exact ⟨[], 0, rfl, Nat.zero_le _, Lib.hid (ScanAt.zero _), Lib.hid ⟨Row.nil _ _ _, fun k hk => by simp [own, Value.ownBlock] at hk, Below.refl _ _⟩⟩
  case round =>
    obtain ⟨A, k, rfl, hk, HS, HR⟩ := hrel
    obtain ⟨hr, ho, hb⟩ := HR.out
    obtain ⟨n, hn⟩ : ∃ n, A.length = n := ⟨_, rfl⟩
    have HN := Lib.hid hn
    have hn4 : n * 4 ≤ k := by rw [← hn]; exact HS.out.2.2
    rw [hn] at hr
    obtain ⟨va, vc, rfl⟩ := hr.slice
    by_cases hlt : k < s.size
    · have hltz : (k : Int) < s.size := by omega
      obtain ⟨T, hT⟩ : ∃ T : ByteArray, s.extract k s.size = T := ⟨_, rfl⟩
      have hTl : T.data.toList = s.data.toList.drop k := by
        rw [← hT, ByteArray.data_extract, Array.toList_extract]
        simp
        exact List.take_of_length_le (by simp)
      have hTs : T.size ≤ s.size := by
        have h1 : T.data.toList.length = T.size := Array.length_toList
        rw [← h1, hTl, List.length_drop, HSL.out]; omega
      have hdc := decode_any T wr (by unfold maxLen; omega) (HML.out.below hb)
      obtain ⟨x, hx⟩ : ∃ x, decL T.data.toList = x := ⟨_, rfl⟩
      rw [hx] at hdc
      have hxd : decL (s.data.toList.drop k) = x := by rw [← hTl]; exact hx
      obtain ⟨r, nb, er⟩ := x
      obtain ⟨sb, hd, d, hpp⟩ := parts r
      unfold decV at hdc
      simp only at hdc
      rw [hpp.s1, hpp.h1, hpp.d1] at hdc
      have HDC := Lib.hid hdc; have HXD := Lib.hid hxd; have HTE := Lib.hid hT; have HPP := Lib.hid hpp
      have HRW := Lib.hid hr; have HO1 := Lib.hid ho; have HB := Lib.hid hb
      clear hdc hx hxd hTl hTs hpp hr ho hb HR hn
      go_wp2_with fail
      refine HDC.out.mono ?_
      rintro e w1 ⟨rfl, hb1⟩
      obtain ⟨w2, hw2⟩ : ∃ w2, w2 = w1.alloc (.cells #[.int .i64 r.kind, .int .i64 r.seq, .int .i64 r.time, .string sb, .string hd, .string d] 33) := ⟨_, rfl⟩
      have hb2 : Below w1.heap.size w1 w2 := by rw [hw2]; exact (Below.refl _ _).alloc (Nat.le_refl _) _
      have he2 : w2.heap[w1.heap.size]? = some (.cells #[.int .i64 r.kind, .int .i64 r.seq, .int .i64 r.time, .string sb, .string hd, .string d] 33 (0, 0)) := by rw [hw2]; exact heap_alloc_new w1 _
      obtain ⟨bx, hbx⟩ : ∃ bx, w1.heap.size = bx := ⟨_, rfl⟩
      rw [hbx] at he2
      have hbb := hb1.trans (hb2.mono hb1.size)
      have HRW2 := Lib.hid (HRW.out.kept (w' := w2) fun j _ hj => hbb.block j hj)
      have HB2 := Lib.hid (HB.out.trans (hbb.mono HB.out.size))
      have HBX := Lib.hid hbx
      obtain ⟨q0, q1, q2, q3, q4, q5⟩ := sixC he2
      clear hb1 hb2 he2 hbx hbb HDC HRW HB
      go_upto_region 5 with fail
      rw [← hw2, HBX.out]
      clear hw2
      by_cases her : er = 0
      · subst her
        have hez : (decL (s.data.toList.drop k)).2.2 = 0 := by rw [HXD.out]
        have hnx := HS.out.next (by rw [HSL.out]; exact hlt) hez
        rw [HXD.out] at hnx
        simp only at hnx
        have hle := hnx.2.1
        rw [HSL.out] at hle
        have hz4 := (decL_size hez).1
        rw [HXD.out] at hz4
        simp only at hz4
        have HNX := Lib.hid hnx
        clear hnx hez
        go_wp2_with (at_builtin; refine Heap.wpList_append_row _ rfl (.tmp 23) (.tmp 25) 25 rfl 33 i0 _ 6 72 Tryz.underlying25 hi hz0 hz1 hz2 rfl (by decide) _ n _ rfl (HRW2.out.kept (fun k _ hk => Below.heap_alloc w2 _ _ hk)) ⟨w2.heap.size, 0, none⟩ 1 1 [.int .i64 r.kind, .int .i64 r.seq, .int .i64 r.time, .string sb, .string hd, .string d] rfl rfl (news_rec w2 _ _ _ _ _ _ _) (by simp [Value.oneCell']) (by unfold maxLen; omega) (by omega) ?_)
        intro v2 w5 r5 t5 o5
        have hal : Below w2.heap.size w2 (w2.alloc (.cells #[.int .i64 r.kind, .int .i64 r.seq, .int .i64 r.time, .string sb, .string hd, .string d] 33)) := (Below.refl _ _).alloc (Nat.le_refl _) _
        have HF := Lib.hid (show Row w5 33 6 v2 (A ++ [r]).length (recsV (A ++ [r])) ∧ (∀ j, own v2 j → w.heap.size ≤ j) ∧ Below w.heap.size w w5 from by
          have hbz := HB2.out.size
          refine ⟨?_, fun j hj => ?_, (HB2.out.trans (hal.mono hbz)).trans (t5.below (Nat.le_trans hbz hal.size) fun k hk => HO1.out k hk)⟩
          · rw [List.length_append, List.length_singleton, HN.out, recsV_append, show recsV [r] = [.int .i64 r.kind, .int .i64 r.seq, .int .i64 r.time, .string sb, .string hd, .string d] from by rw [← HPP.out.s1, ← HPP.out.h1, ← HPP.out.d1]; rfl]
            exact r5
          · rcases o5 j hj with h | h
            · exact HO1.out j h
            · have := hal.size; omega)
        clear r5 t5 o5 hal q0 q1 q2 q3 q4 q5
        go_wp2_with fail
        exact ⟨⟨A ++ [r], k + nb, by go_num, hle, HNX, HF⟩, by simp [intOf]; omega⟩
      · have he0 : ((er : Int) != 0) = true := by simpa using her
        have hend := HS.out.end_ (.inr (by rw [HXD.out]; exact her))
        rw [HO.out] at hend
        subst hend
        have HF := Lib.hid (show ScanPost w (A, k) (.returned (.tuple #[.slice va n vc, .int .i64 (k : Nat)])) w2 from ⟨_, rfl, by rw [HN.out]; exact HRW2.out, HO1.out, HB2.out⟩)
        clear her
        go_wp2_with fail
        go_ret2
        exact HF.out
    · have hltz : ¬ (k : Int) < s.size := by omega
      have hend := HS.out.end_ (.inl (by rw [HSL.out]; omega))
      rw [HO.out] at hend
      subst hend
      have HF := Lib.hid (show ScanPost w (A, k) (.returned (.tuple #[.slice va n vc, .int .i64 (k : Nat)])) wr from ⟨_, rfl, by rw [HN.out]; exact hr, ho, hb⟩)
      clear hr ho hb
      go_wp2_with fail
      go_ret2
      exact HF.out
end
end Go.Proofs.YtbgchhgdlceceaaGreatDoor.Log
