/- Parts of the proof, joined: The reference's disk: Sync, Cut.; roomy, kept, spoil at texts and numbers. gen_roomy.py writes this text.; Decode, walked: whatever is handed in.; A block's records: what is told of scanning it, in plain Lean; blog.scan, walked.; The disk's Crash.; What Open leaves, block by block, in plain Lean. No program here.; blog.Open, walked.; (*Log).last, Blocks, Sync, walked.; (*Log).Blocks, Sync, Append, walked. -/
import Derived.Test.YthhgfdeegnimjaaGreatDoorConsumerPlaysUptoM5
import Derived.Test.YthhgfdeegnimjaaGreatDoorConsumerPlaysUptoM11
import Derived.Test.YthhgfdeegnimjaaGreatDoorConsumerPlaysUptoM15
import Derived.Test.YthhgfdeegnimjaaGreatDoorConsumerPlaysUptoM17
import Derived.Test.YthhgfdeegnimjaaGreatDoorConsumerPlaysUptoM28
import Derived.Test.YthhgfdeegnimjaaGreatDoorConsumerPlaysUptoM36
import Derived.Test.YthhgfdeegnimjaaGreatDoorConsumerPlaysUptoM38
import Derived.Test.YthhgfdeegnimjaaGreatDoorConsumerPlaysUptoM39
import Derived.Deep.CutRange
namespace Go.Proofs.YthhgfdeegnimjaaGreatDoor.Drw
open Go.RowKit Heap Dsk

/-! ### in plain Lean -/
theorem setF_set : ∀ {A : List FileP} {k : Nat} {p q : FileP}, A[k]? = some p → p.n = q.n → (∀ y ∈ A.take k, y.n ≠ q.n) → setF A q = A.set k q
  | [], k, p, q, h, _, _ => by simp at h
  | a :: r, 0, p, q, h, e, _ => by
    simp only [List.getElem?_cons_zero, Option.some.injEq] at h; subst h
    unfold setF; rw [if_pos e]; rfl
  | a :: r, k + 1, p, q, h, e, hn => by
    unfold setF
    rw [if_neg (hn a (by simp)), setF_set (k := k) (by simpa using h) e (fun y hy => hn y (by rw [List.take_succ_cons]; exact List.mem_cons_of_mem _ hy))]
    rfl

section
variable {W w : World} {G : Nat → Prop} {E : Nat} {room : Int} {A : List FileP}

/-- The world in which a drawer's paper is turned. -/
theorem DrawAt.put {w' : World} {v : Value} {k : Nat} {p q : FileP} {n : Int} (h : DrawAt W G E room A w) (hn : idxF A n = (k : Int)) (hp : A[k]? = some p) (hq : q.n = n) (hr : RightD room (setF A q))
    (hE : w'.heap[E]? = some (.cells #[.int .i64 room, v] 74 (0, 0))) (hrow : Row w' 277 3 v A.length (plsV (A.set k q))) (ho : ∀ k, own v k → G k) (ht : Heap.Touch G w w') :
    DrawAt W G E room (setF A q) w' := by
  obtain ⟨p', h1, h2, h3, h4, _⟩ := index_pos hn
  obtain rfl : p' = p := by rw [hp] at h1; simpa using h1.symm
  subst hq
  have hset : setF A q = A.set k q := setF_set hp h2 h4
  refine ⟨hr, h.below.trans (ht.below h.below.size h.newG), h.newG, h.gE, v, hE, ?_, ho⟩
  rw [hset, List.length_set]; exact hrow

end
end Go.Proofs.YthhgfdeegnimjaaGreatDoor.Drw

namespace Go.Proofs.YthhgfdeegnimjaaGreatDoor.Own
open Go.RowKit Heap
open Subj (Tok ML Strs StrsAt strAt strsV strsV_len strsV_get Ints IntsAt)
open Sto (BlockOf)

theorem Row.ints {w : World} {e : TypeId} {g off n cap : Nat} {zs : List Int} {ys : List Value} (hn : zs.length = n) {m : Nat} (hm : n ≤ m) (h : Row w e 1 (.slice (some ⟨g, off, none⟩) m cap) m (zs.map (Value.int .i64) ++ ys)) : Ints w (.slice (some ⟨g, off, none⟩) n cap) zs := by
  subst hn
  have := h.cap_le
  refine ⟨_, cap, rfl, by omega, fun _ => ⟨g, off, rfl, fun k hk => ?_⟩⟩
  rw [(h.cell k (by omega)).1, List.getElem?_append_left (by simpa using hk), List.getElem?_map, List.getElem?_eq_getElem hk]
  simp [List.getD, hk]

section
variable {w : World}

end
end Go.Proofs.YthhgfdeegnimjaaGreatDoor.Own

namespace Go.Proofs.YthhgfdeegnimjaaGreatDoor.Rec
open Go.RowKit Subj Pack Crc

end Go.Proofs.YthhgfdeegnimjaaGreatDoor.Rec

namespace Go.Proofs.YthhgfdeegnimjaaGreatDoor.Log
open Go.RowKit Heap
open Subj (ML)
open Rec (Rc decL)
open Sto (recsV recsV_append recC parts sixC info_rec news_rec)

theorem decL_size {s : List UInt8} (h : (decL s).2.2 = 0) : 4 ≤ (decL s).2.1 ∧ (decL s).2.1 ≤ s.length := by
  unfold decL at h ⊢
  split
  · rename_i h1; rw [if_pos h1] at h; exact absurd h h1
  · rename_i h1
    rw [if_neg h1] at h
    split
    · rename_i h2; rw [if_pos h2] at h; cases h
    · rename_i h2
      rw [if_neg h2] at h
      split
      · rename_i h3; rw [h3] at h; cases h
      · rename_i k rest h3
        rw [h3] at h
        simp only at h
        split
        · rename_i h4; rw [if_pos h4] at h; cases h
        · rename_i h4
          rw [if_neg h4] at h
          unfold Rec.bodyR at h ⊢
          split
          · simp only; omega
          · rename_i h5; rw [if_neg h5] at h; cases h

theorem scanF_fuel : ∀ (f : Nat) (s : List UInt8), s.length ≤ f → scanF f s = scanF s.length s
  | 0, s, h => by
    have e : s = [] := List.eq_nil_of_length_eq_zero (by omega)
    subst e; rfl
  | f + 1, s, h => by
    cases s with
    | nil => rfl
    | cons b r =>
      show scanF (f + 1) (b :: r) = scanF (r.length + 1) (b :: r)
      unfold scanF
      rw [if_neg (show ¬ (b :: r = []) by simp), if_neg (show ¬ (b :: r = []) by simp)]
      by_cases he : (decL (b :: r)).2.2 = 0
      · rw [if_neg (not_not_intro he), if_neg (not_not_intro he)]
        have hz := decL_size he
        have hl : ((b :: r).drop (decL (b :: r)).2.1).length ≤ r.length := by rw [List.length_drop, List.length_cons]; omega
        rw [scanF_fuel f _ (by rw [List.length_cons] at h; omega), ← scanF_fuel r.length _ hl]
      · rw [if_pos he, if_pos he]
termination_by f => f

theorem scan_bad {s : List UInt8} (h : (decL s).2.2 ≠ 0) : scan s = ([], 0) := by
  unfold scan
  cases s with
  | nil => rfl
  | cons b r =>
    show scanF (r.length + 1) (b :: r) = _
    unfold scanF
    rw [if_neg (show ¬ (b :: r = []) by simp), if_pos h]

theorem scan_step {s : List UInt8} (hs : s ≠ []) (h : (decL s).2.2 = 0) : scan s = ((decL s).1 :: (scan (s.drop (decL s).2.1)).1, (decL s).2.1 + (scan (s.drop (decL s).2.1)).2) := by
  unfold scan
  cases s with
  | nil => exact absurd rfl hs
  | cons b r =>
    have hz := decL_size h
    have e : scanF (b :: r).length (b :: r) = _ := show scanF (r.length + 1) (b :: r) = _ by
      unfold scanF
      rw [if_neg (show ¬ (b :: r = []) by simp), if_neg (not_not_intro h)]
    rw [e, scanF_fuel r.length _ (by rw [List.length_drop, List.length_cons]; omega)]

/-- The scan, as far as it has come. -/
def ScanAt (S : List UInt8) (A : List Rc) (a : Nat) : Prop := scan S = (A ++ (scan (S.drop a)).1, a + (scan (S.drop a)).2) ∧ a ≤ S.length ∧ A.length * 4 ≤ a

theorem ScanAt.zero (S : List UInt8) : ScanAt S [] 0 := ⟨by simp, Nat.zero_le _, by simp⟩

theorem ScanAt.next {S : List UInt8} {A : List Rc} {a : Nat} (h : ScanAt S A a) (ha : a < S.length) (he : (decL (S.drop a)).2.2 = 0) : ScanAt S (A ++ [(decL (S.drop a)).1]) (a + (decL (S.drop a)).2.1) := by
  have hz := decL_size he
  rw [List.length_drop] at hz
  have hne : S.drop a ≠ [] := fun e => by have := congrArg List.length e; rw [List.length_drop, List.length_nil] at this; omega
  refine ⟨?_, by omega, by rw [List.length_append, List.length_singleton]; have := h.2.2; omega⟩
  rw [h.1, scan_step hne he, List.drop_drop]
  simp only [List.append_assoc, List.singleton_append, Nat.add_assoc]

theorem ScanAt.end_ {S : List UInt8} {A : List Rc} {a : Nat} (h : ScanAt S A a) (he : a = S.length ∨ (decL (S.drop a)).2.2 ≠ 0) : scan S = (A, a) := by
  have : scan (S.drop a) = ([], 0) := by
    rcases he with rfl | he
    · rw [List.drop_length]; rfl
    · exact scan_bad he
  rw [h.1, this]; simp

section
variable {w : World}

end
end Go.Proofs.YthhgfdeegnimjaaGreatDoor.Log

namespace Go.Proofs.YthhgfdeegnimjaaGreatDoor.Dsk
open Go.RowKit Go.Maps Heap

/-! ### in plain Lean -/
section
variable {W w : World} {F : Nat → Prop} {D : Nat} {room : Int} {A : List FileP}

end
end Go.Proofs.YthhgfdeegnimjaaGreatDoor.Dsk

namespace Go.Proofs.YthhgfdeegnimjaaGreatDoor.Log
open Dsk Rec

section
variable {A : List FileP} {i : Nat} {p : FileP}

end

end Go.Proofs.YthhgfdeegnimjaaGreatDoor.Log

namespace Go.Proofs.YthhgfdeegnimjaaGreatDoor.Log
open Go.RowKit Heap Dsk
open Subj (ML)
open Rec (Rc)
open Sto (recsV recsV_append recsV_one info_rec)

section
variable {W w : World} {F : Nat → Prop} {D : Nat} {room : Int} {A : List FileP}

/-- The log at G: of the disk at D, of blocks of so many bytes. -/
def LogAt (D G : Nat) (size : Int) (w : World) : Prop := w.heap[G]? = some (.cells #[.pointer (some ⟨D, 0, none⟩), .int .i64 size] 335 (0, 0))

end
end Go.Proofs.YthhgfdeegnimjaaGreatDoor.Log

namespace Go.Proofs.YthhgfdeegnimjaaGreatDoor.Log
open Go.RowKit Heap Dsk
open Subj (ML)

section
variable {W w : World} {F : Nat → Prop} {D G : Nat} {room size : Int} {A : List FileP}

theorem LogAt.below {w' : World} (h : LogAt D G size w) (hb : Below w.heap.size w w') : LogAt D G size w' := by
  unfold LogAt at h ⊢
  rw [hb.block G (heap_lt h)]; exact h

theorem LogAt.touch {w' : World} (h : LogAt D G size w) (ht : Heap.Touch F w w') (hn : ¬ F G) : LogAt D G size w' := by
  unfold LogAt at h ⊢
  rw [ht.block G (heap_lt h) hn]; exact h

theorem DiskAt.low {w' : World} (h : DiskAt W F D room A w) (hb : Below w.heap.size w w') : DiskAt W F D room A w' :=
  h.kept (hb.mono h.below.size) fun k _ hk2 => hb.block k hk2

theorem last_none (h : A.getLast? = none) : A = [] := by simpa using h

theorem last_some {p : FileP} (h : A.getLast? = some p) : p ∈ A ∧ 0 < A.length ∧ A[A.length - 1]? = some p := by
  rw [List.getLast?_eq_getElem?] at h
  have h2 := (List.getElem?_eq_some_iff.1 h).1
  exact ⟨List.mem_of_getElem? h, by omega, h⟩

set_option maxHeartbeats 2000000 in
set_option maxRecDepth 100000 in
theorem last_any (h : DiskAt W F D room A w) (hG : LogAt D G size w) : Calls Tryz.prog 302 #[.pointer (some ⟨G, 0, none⟩)] w fun e w' => e = .returned (.tuple #[.int .i64 (lastD A).1, .int .i64 ((lastD A).2 : Nat)]) ∧ Below w.heap.size w w' := by
  obtain ⟨c0, c1, cf⟩ := twoC hG
  have HL := Lib.hid (list_any h); have HH := Lib.hid h; have HG := Lib.hid hG
  clear h hG
  cases hla : A.getLast? with
  | none =>
    have hA := last_none hla
    have hld : lastD A = (-1, 0) := by unfold lastD; rw [hla]
    rw [hld]
    have HA := Lib.hid hA
    clear hla hA hld
    go_enter Tryz.func302, Tryz.ntmps302
    go_wp2_with fail
    refine HL.out.mono ?_
    rintro e w1 ⟨nv, rfl, hN⟩
    obtain ⟨a1, n1, hv⟩ := hN.2.1.slice
    rw [HA.out] at hv
    obtain rfl : nv = .slice a1 0 n1 := hv
    have HB := Lib.hid hN.1
    clear hN HL
    go_wp2_with fail
    go_ret2
    exact ⟨rfl, HB.out⟩
  | some p =>
    obtain ⟨hmem, hpos, hget⟩ := last_some hla
    have hld : lastD A = (p.n, p.text.length) := by unfold lastD; rw [hla]
    rw [hld]
    have hpnum := HH.out.right.num p hmem
    have hpl := HH.out.right.len hmem
    have hgf := getF_mem HH.out.right.sorted hmem
    have hfew := HH.out.right.few
    obtain ⟨n, hn⟩ : ∃ n, A.length = n := ⟨_, rfl⟩
    rw [hn] at hpos hget hfew
    have HGF := Lib.hid hgf; have HGE := Lib.hid hget; have HN := Lib.hid hn
    have HPN := Lib.hid (show -9223372036854775808 ≤ p.n ∧ p.n ≤ 9223372036854775807 from ⟨by omega, by omega⟩)
    clear hla hld hmem hgf hget hn
    go_enter Tryz.func302, Tryz.ntmps302
    go_wp2_with fail
    refine HL.out.mono ?_
    rintro e w1 ⟨nv, rfl, hN⟩
    obtain ⟨hb, hr, _⟩ := hN
    rw [List.length_map, HN.out] at hr
    rcases hr.2 with ⟨_, h0⟩ | ⟨g, off, cap, cur, rfl, _⟩
    · omega
    have hcell := hr.cell (n - 1) (by omega)
    have hnk : (numsV (A.map (·.n)))[n - 1]? = some (.int .i64 p.n) := by
      obtain ⟨hkl, e⟩ := List.getElem?_eq_some_iff.1 HGE.out
      subst e
      simp [numsV, hkl]
    rw [hnk] at hcell
    have hc0 := hcell.1
    rw [show off + (n - 1) = off + (n - 1) from rfl] at hc0
    have hd1 := DiskAt.low HH.out hb
    have hrd := read_any hd1 p.n HPN.out
    have hrdd : readD A p.n = (p.text, 0) := by unfold readD; rw [HGF.out]
    rw [hrdd] at hrd
    simp only at hrd
    obtain ⟨d0, d1, df⟩ := twoC (HG.out.below hb)
    have hnz : ¬ (n : Int) = 0 := by omega
    have HRD := Lib.hid hrd; have HB := Lib.hid hb
    clear hb hr hcell hnk hrd hrdd hd1 HL
    go_wp2_with fail
    refine HRD.out.mono ?_
    rintro e w' ⟨rfl, rfl⟩
    go_wp2_with fail
    go_ret2
    exact ⟨by simp, HB.out⟩
end
end Go.Proofs.YthhgfdeegnimjaaGreatDoor.Log

namespace Go.Proofs.YthhgfdeegnimjaaGreatDoor.Log
open Go.RowKit Heap Dsk
open Subj (ML)
open Rec (Rc recErr recA rcOf codedL ml_alloc)

section
variable {W w : World} {F : Nat → Prop} {D G : Nat} {room size : Int} {A : List FileP}
end
end Go.Proofs.YthhgfdeegnimjaaGreatDoor.Log
