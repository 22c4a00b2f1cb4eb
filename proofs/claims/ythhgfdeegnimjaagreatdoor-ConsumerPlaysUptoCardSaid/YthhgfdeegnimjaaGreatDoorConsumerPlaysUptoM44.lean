/- Parts of the proof, joined: sameStore, walked.; The reference's consumer: out, walked.; Two facts that the log's and the vault's laws share.; What the reference's out leaves of rising deliveries, in plain Lean.; The law StorePlays, walked: it returns true.; LogFront in plain Lean: what a log tells behind a stop.; (*Log).Rewrite, walked.; A vault in plain Lean: what was done is there behind a stop; made compact it is, too. No program here.; A vault in memory: its disk, its log, its store, each of blocks of its own.; (*Vault).Do, Used, Store, walked. -/
import Derived.Test.YthhgfdeegnimjaaGreatDoorConsumerPlaysUptoM24
import Derived.Test.YthhgfdeegnimjaaGreatDoorConsumerPlaysUptoM33
import Derived.Test.YthhgfdeegnimjaaGreatDoorConsumerPlaysUptoM41
import Derived.Test.YthhgfdeegnimjaaGreatDoorConsumerPlaysUptoM42
import Derived.Deep.RegionHeld3
import Derived.Test.YthhgfdeegnimjaaGreatDoorConsumerPlaysUptoM15
import Derived.Test.YthhgfdeegnimjaaGreatDoorConsumerPlaysUptoM36
import Derived.Test.YthhgfdeegnimjaaGreatDoorConsumerPlaysUptoM40
import Derived.OwnWalk
import Derived.StillTailTactics
namespace Go.Proofs.YthhgfdeegnimjaaGreatDoor.Sto
open Go.RowKit Heap
open Subj (Tok ML pieces takes)
open Rec (Rc recErr far)
open Idx (Ents ptrV entV)
open Shf (SortedE)

section
variable {W w : World} {F : Nat → Prop} {D B C : Nat} {v : Value} {L : List Rc} {last : Int}

/-- A call tells a record and an error. -/
def Tells (g : Nat) (args : Array Value) (w : World) (kd sq tm : Int) (s h d : ByteArray) (er : Nat) : Prop := ∀ w', Below w.heap.size w w' → Calls Tryz.prog g args w' fun e w'' => e = .returned (.tuple #[.agg #[.int .i64 kd, .int .i64 sq, .int .i64 tm, .string s, .string h, .string d], .int .i64 er]) ∧ Below w'.heap.size w' w''

end
end Go.Proofs.YthhgfdeegnimjaaGreatDoor.Sto

namespace Go.Proofs.YthhgfdeegnimjaaGreatDoor.Hnd
open Go.RowKit Heap Con
open Subj (Tok TakerP ML)

def outL (l : List Pd) (q : Int) : List Pd := l.filter fun p => p.seq != q

theorem outL_take {l : List Pd} {k : Nat} {p : Pd} {q : Int} (h : l[k]? = some p) : outL (l.take (k + 1)) q = outL (l.take k) q ++ (if p.seq != q then [p] else []) := by
  obtain ⟨hk, e⟩ := List.getElem?_eq_some_iff.1 h
  unfold outL
  rw [List.take_succ_eq_append_getElem hk, e, List.filter_append]
  congr 1
  rw [List.filter_cons]
  split <;> rfl

theorem outL_len (l : List Pd) (k : Nat) (q : Int) : (outL (l.take k) q).length ≤ l.length := by
  have h1 : (outL (l.take k) q).length ≤ (l.take k).length := List.length_filter_le _ _
  have h2 := List.length_take_le k l
  have h3 : (l.take k).length ≤ l.length := by rw [List.length_take]; omega
  omega

theorem info_held : (Tryz.prog.info? 154).map (fun i => (i.zero, i.size, i.bytes)) = some (some (.agg #[.int .i64 0, .int .i64 0, .int .i64 0]), 3, 24) := by kernel_rfl

theorem news_held (w : World) (p : Pd) (t : TypeId) : ∀ j u, (pdC p)[j]? = some u → (w.alloc (.cells #[.int .i64 p.seq, .int .i64 p.nth, .int .i64 p.due] t)).cell? ((⟨w.heap.size, 0, none⟩ : Addr).add j) = some u := fun j u hj => by
  rw [show (⟨w.heap.size, 0, none⟩ : Addr).add j = ⟨w.heap.size, 0 + j, none⟩ by unfold Addr.add; split <;> simp_all, cell_of_row _ _ _ _ _ _ (heap_alloc_new w _), Nat.zero_add]
  simpa [pdC] using hj

section
variable {W w : World} {K : Nat} {t : TakerP} {vb v : Value} {c : Cn}

set_option maxHeartbeats 4000000 in
set_option maxRecDepth 100000 in
theorem out_h (h : CAt 144 154 W K t vb v c w) (hfew : c.l.length ≤ 1000) (q : Int) :
    Calls Tryz.prog 72 #[.pointer (some ⟨K, 0, none⟩), .int .i64 q] w fun e w' => e = .returned (.tuple #[]) ∧ NextC 144 154 W K t vb v w ⟨c.place, c.count, outL c.l q⟩ w' := by
  obtain ⟨a0, cp, rfl⟩ := h.row.slice
  obtain ⟨n, hn⟩ : ∃ n, c.l.length = n := ⟨_, rfl⟩
  have HH := Lib.hid h; have HN := Lib.hid hn
  have hnz : (n : Int) ≤ 1000 := by omega
  have hkl := heap_lt h.cell
  obtain ⟨i0, hi, hz0, hz1, hz2⟩ := info_parts info_held
  have hcz : ∀ wr, Below w.heap.size w wr → wr.cell? ⟨K, 12, none⟩ = some (.slice a0 n cp) ∧ (∀ j, wr.frozen? ⟨K, j, none⟩ = false) ∧ K < wr.heap.size := fun wr hb => by
    obtain ⟨_, _, _, _, _, _, _, _, _, _, _, _, c12, cf⟩ := (HH.out.next hb).cells
    rw [HN.out] at c12
    exact ⟨c12, cf, heap_lt (HH.out.next hb).cell⟩
  have HCZ := Lib.hid hcz
  clear h hn hfew hcz
  go_enter Tryz.func72, Tryz.ntmps72
  go_wp2_with fail
  go_loopw [4, 5] (fun s4 i wr => ∃ j : Nat, j ≤ n ∧ i = .int .i64 j ∧ Hid (Below w.heap.size w wr ∧ Row wr 154 3 s4 (outL (c.l.take j) q).length (pdsV (outL (c.l.take j) q)) ∧ ∀ k, own s4 k → w.heap.size ≤ k)) (fun _ i _ => n - (intOf i).toNat)
  case atStart => exact ⟨0, Nat.zero_le _, rfl, Lib.hid ⟨Below.refl _ _, Row.nil _ _ _, fun k hk => by simp [own, Value.ownBlock] at hk⟩⟩
  case round =>
    rename_i s4
    obtain ⟨j, hj, rfl, HR⟩ := hrel
    obtain ⟨e12, ef, hlt⟩ := HCZ.out _ HR.out.1
    by_cases hlt2 : j < n
    · have hltz : (j : Int) < n := by omega
      obtain ⟨p, hp⟩ : ∃ p, c.l[j]? = some p := ⟨c.l[j]'(by rw [HN.out]; exact hlt2), by simp⟩
      have hrow := (HH.out.next HR.out.1).row
      rw [HN.out] at hrow
      rcases hrow.2 with ⟨e, _⟩ | ⟨g, off, cap, cur, e, _⟩
      · simp at e; omega
      · obtain ⟨rfl, rfl⟩ : a0 = some ⟨g, off, none⟩ ∧ cp = cap := by simp at e; exact e
        clear e
        obtain ⟨d0, d1, d2, _, _⟩ := cells_pd hrow j p hp hlt2
        have hcap := hrow.cap_le.1
        have HD := Lib.hid (outL_take (q := q) hp)
        have hlen := outL_len c.l j q
        rw [HN.out] at hlen
        obtain ⟨m, hm⟩ : ∃ m, (outL (c.l.take j) q).length = m := ⟨_, rfl⟩
        rw [hm] at hlen
        have HM := Lib.hid hm
        clear hrow hp hm
        by_cases hq : p.seq = q
        · have hq2 : (p.seq != q) = false := by simpa using hq
          rw [hq2, if_neg (by simp), List.append_nil] at HD
          go_wp2_with fail
          exact ⟨⟨j + 1, by omega, by go_num, Lib.hid (by rw [HD.out]; exact HR.out)⟩, by simp [intOf]; omega⟩
        · have hq2 : (p.seq != q) = true := by simpa using hq
          rw [hq2, if_pos rfl] at HD
          have hr4 := HR.out.2.1
          rw [HM.out] at hr4
          have HR4 := Lib.hid hr4
          clear hr4
          go_wp2_with (at_builtin; refine Heap.wpList_append_row _ rfl (.tmp 25) (.tmp 33) 142 rfl 154 i0 _ 3 24 Tryz.underlying142 hi hz0 hz1 hz2 rfl (by decide) _ m _ rfl (HR4.out.kept (fun k _ hk => Below.heap_alloc wr _ _ hk)) ⟨wr.heap.size, 0, none⟩ 1 1 (pdC p) rfl rfl (news_held wr p _) (by simp [pdC, Value.oneCell']) (by unfold maxLen; omega) (by omega) ?_)
          intro v5 w5 r5 t5 o5
          have HX := Lib.hid (show Below w.heap.size w w5 ∧ Row w5 154 3 v5 (outL (c.l.take (j + 1)) q).length (pdsV (outL (c.l.take (j + 1)) q)) ∧ ∀ k, own v5 k → w.heap.size ≤ k from by
            have hb1 := HR.out.1
            have hb2 := hb1.alloc hb1.size (.cells #[.int .i64 p.seq, .int .i64 p.nth, .int .i64 p.due] 154)
            refine ⟨hb2.trans (t5.below hb2.size fun k hk => HR.out.2.2 k hk), ?_, fun k hk => (o5 k hk).elim (HR.out.2.2 k) fun h => ?_⟩
            · rw [HD.out, List.length_append, HM.out, pdsV_append]
              exact r5
            · have h3 : wr.heap.size + 1 ≤ k := by simpa using h
              have := hb1.size
              omega)
          clear r5 t5 o5 HR HR4
          go_wp2_with fail
          exact ⟨⟨j + 1, by omega, by go_num, HX⟩, by simp [intOf]; omega⟩
    · have hltz : ¬ (j : Int) < n := by omega
      obtain rfl : j = n := by omega
      have e : c.l.take j = c.l := List.take_of_length_le (by rw [HN.out]; exact Nat.le_refl _)
      rw [e] at HR
      obtain ⟨a5, n5, rfl⟩ := HR.out.2.1.slice
      have HX := Lib.hid (show NextC 144 154 W K t vb (.slice a0 c.l.length cp) w ⟨c.place, c.count, outL c.l q⟩ (wr.setCell ⟨K, 12, none⟩ (.slice a5 (outL c.l q).length n5)) from by
        have h1 := heap_setCell_same wr K 12 _ _ (.slice a5 (outL c.l q).length n5) (HH.out.next HR.out.1).cell
        have hT : Heap.Touch (fun k => k = K ∨ own (.slice a0 c.l.length cp) k) w (wr.setCell ⟨K, 12, none⟩ (.slice a5 (outL c.l q).length n5)) := (Heap.Touch.ofBelow HR.out.1).setCell (.inl (.inl rfl)) _
        have hne : ∀ k, own (.slice a5 (outL c.l q).length n5) k → k ≠ K := fun k hk e => by have := HR.out.2.2 k hk; omega
        exact ⟨_, HH.out.put hT h1 (HR.out.2.1.kept fun k hk _ => heap_setCell_other _ _ _ _ (hne k hk)) (fun k hk => .inr (HR.out.2.2 k hk)) hne, hT, fun k hk => .inr (HR.out.2.2 k hk)⟩)
      go_wp2_with fail
      go_end0
      exact ⟨rfl, HX.out⟩
end
end Go.Proofs.YthhgfdeegnimjaaGreatDoor.Hnd

namespace Go.Proofs.YthhgfdeegnimjaaGreatDoor.Vlt
open Go.RowKit Heap
open Rec (Rc recErr)
open Sto (Fits)

theorem low_to {w0 wa wb : World} (h : Below w0.heap.size w0 wa) (k : Below wa.heap.size wa wb) : Below w0.heap.size w0 wb := h.trans (k.mono h.size)
end Go.Proofs.YthhgfdeegnimjaaGreatDoor.Vlt

namespace Go.Proofs.YthhgfdeegnimjaaGreatDoor.Hnd
open Con

theorem outL_all {l : List Pd} {q : Int} (h : ∀ p ∈ l, p.seq ≠ q) : outL l q = l := by
  unfold outL
  rw [List.filter_eq_self]
  intro p hp
  simpa using h p hp

/-- Rising numbers: only one goes. -/
theorem outL_at : ∀ {l : List Pd} {i : Nat} {p : Pd}, (l.Pairwise fun a b => a.seq < b.seq) → l[i]? = some p → outL l p.seq = l.eraseIdx i
  | [], i, p, _, hi => by simp at hi
  | a :: l, 0, p, h, hi => by
    simp at hi; subst hi
    rw [List.eraseIdx_cons_zero]
    unfold outL
    rw [List.filter_cons, if_neg (by simp)]
    exact outL_all fun b hb => by have := (List.pairwise_cons.1 h).1 b hb; omega
  | a :: l, i + 1, p, h, hi => by
    have hi2 : l[i]? = some p := by simpa using hi
    have hlt := (List.pairwise_cons.1 h).1 p (List.mem_of_getElem? hi2)
    have ih := outL_at (List.pairwise_cons.1 h).2 hi2
    rw [List.eraseIdx_cons_succ, ← ih]
    unfold outL
    rw [List.filter_cons, if_pos (by simp; omega)]

/-- The head goes. -/
theorem outL_head {a : Pd} {l : List Pd} (h : (a :: l).Pairwise fun a b => a.seq < b.seq) : outL (a :: l) a.seq = l := outL_at (i := 0) h rfl
end Go.Proofs.YthhgfdeegnimjaaGreatDoor.Hnd

namespace Go.Proofs.YthhgfdeegnimjaaGreatDoor.Sto
open Go.RowKit Heap
open Subj (Tok ML pieces takes)
open Rec (Rc recErr far)
open Idx (Ents ptrV)

theorem dist_runS (l : List Rc) : dist (runS l).1 ≤ 100 := by
  unfold runS
  suffices h : ∀ (l : List Rc) (s : List Rc × Int), dist s.1 ≤ 100 → dist (l.foldl (fun s r => after s.1 s.2 r) s).1 ≤ 100 from h l ([], 0) (by decide)
  intro l
  induction l with
  | nil => intro s h; exact h
  | cons a l ih => intro s h; exact ih _ (dist_after h)

section
variable {w : World}

/-- Both, somewhere of one's own. -/
def Two (w : World) (D C B : Nat) (L : List Rc) (last : Int) (wr : World) : Prop := ∃ F v, BothAt w F D B C v L last L last wr

end
end Go.Proofs.YthhgfdeegnimjaaGreatDoor.Sto

namespace Go.Proofs.YthhgfdeegnimjaaGreatDoor.Log
open Dsk Rec

theorem textsL_append (a b : List Rc) : textsL (a ++ b) = textsL a ++ textsL b := by simp [textsL]

/-- Blocks that are whole and sure, of these records. -/
def Good : List FileP → List Rc → Prop
  | [], l => l = []
  | p :: r, l => ∃ g gs, l = g ++ gs ∧ p.text = textsL g ∧ p.sure = p.text.length ∧ Good r gs

theorem Good.snoc {g : List Rc} {p : FileP} (hp : p.text = textsL g) (hs : p.sure = p.text.length) : ∀ {A : List FileP} {l : List Rc}, Good A l → Good (A ++ [p]) (l ++ g)
  | [], l, h => by
    have h : l = [] := h
    subst h
    exact ⟨g, [], by simp, hp, hs, rfl⟩
  | a :: r, l, ⟨g0, gs, e, h1, h2, h3⟩ => ⟨g0, gs ++ g, by rw [e, List.append_assoc], h1, h2, h3.snoc hp hs⟩

/-- What always is so of the log's blocks: all that was appended, and how many of these are sure. -/
structure Inv (A : List FileP) (all : List Rc) (sure : Nat) : Prop where
  ok : ∀ r ∈ all, recErr r = 0
  parts : ∃ pre p gp gl c, A = pre ++ [p] ∧ all = gp ++ gl ∧ Good pre gp ∧ p.text = textsL gl ∧ c ≤ gl.length ∧ (textsL (gl.take c)).length ≤ p.sure ∧ sure ≤ gp.length + c

theorem Inv.start (n : Int) : Inv [⟨n, [], 0⟩] [] 0 := ⟨fun _ h => (by cases h), [], _, [], [], 0, rfl, rfl, rfl, rfl, Nat.le_refl _, by simp [textsL], Nat.le_refl _⟩

theorem Inv.add {A : List FileP} {all : List Rc} {sure : Nat} {room size : Int} {r : Rc} (h : Inv A all sure) (hs : Sorted A) :
    ((logD room size A r).2 = 0 → Inv (logD room size A r).1 (all ++ [r]) sure) ∧ ((logD room size A r).2 ≠ 0 → Inv (logD room size A r).1 all sure) := by
  unfold logD
  by_cases her : recErr r ≠ 0
  · rw [if_pos her]
    exact ⟨fun e => absurd e her, fun _ => h⟩
  · rw [if_neg her]
    have hok2 : ∀ x ∈ all ++ [r], recErr x = 0 := fun x hx => by
      rcases List.mem_append.1 hx with hx | hx
      · exact h.ok x hx
      · simp at hx; subst hx; omega
    obtain ⟨pre, p, gp, gl, c, rfl, rfl, hg, ht, hc, hcs, hsu⟩ := h.parts
    have hlt : ∀ x ∈ pre, x.n < p.n := fun x hx => by
      have := List.pairwise_append.1 hs
      exact this.2.2 x hx p (by simp)
    have hok := h.ok
    unfold putD
    rw [List.getLast?_append]
    simp only [List.getLast?_singleton, Option.some_or]
    by_cases hroll : 0 < p.text.length ∧ size < p.text.length + (codedL r).length
    · rw [if_pos hroll]
      have e : (syncD (pre ++ [p]) p.n).1 = pre ++ [⟨p.n, p.text, p.text.length⟩] := by
        unfold syncD
        rw [getF_last p hlt]
        simp only
        exact setF_last p ⟨p.n, p.text, p.text.length⟩ hlt rfl
      rw [e]
      have hlt2 : ∀ x ∈ pre ++ [(⟨p.n, p.text, p.text.length⟩ : FileP)], x.n < p.n + 1 := fun x hx => by
        rcases List.mem_append.1 hx with hx | hx
        · have := hlt x hx; omega
        · simp at hx; subst hx; simp only; omega
      have hstay : Inv (pre ++ [⟨p.n, p.text, p.text.length⟩]) (gp ++ gl) sure := ⟨hok, pre, _, gp, gl, c, rfl, rfl, hg, ht, hc, by
        simp only
        rw [ht]
        conv => rhs; rw [← List.take_append_drop c gl, textsL_append, List.length_append]
        omega, hsu⟩
      have hgrow : Inv ((pre ++ [⟨p.n, p.text, p.text.length⟩]) ++ [⟨p.n + 1, codedL r, 0⟩]) ((gp ++ gl) ++ [r]) sure :=
        ⟨hok2, _, _, gp ++ gl, [r], 0, rfl, rfl, Good.snoc (p := ⟨p.n, p.text, p.text.length⟩) ht rfl hg, by simp [textsL], by simp, by simp [textsL], by rw [List.length_append]; omega⟩
      unfold appD
      rw [getF_above hlt2]
      split
      · exact ⟨fun e => (by cases e), fun _ => hstay⟩
      · split
        · exact ⟨fun e => (by cases e), fun _ => hstay⟩
        · simp only
          split
          · exact ⟨fun e => (by cases e), fun _ => hstay⟩
          · refine ⟨fun _ => ?_, fun e => absurd rfl e⟩
            simp only
            rw [insF_above ⟨p.n + 1, codedL r, 0⟩ hlt2]
            exact hgrow
    · rw [if_neg hroll]
      unfold appD
      rw [getF_last p hlt]
      split
      · exact ⟨fun e => (by cases e), fun _ => h⟩
      · split
        · exact ⟨fun e => (by cases e), fun _ => h⟩
        · simp only
          refine ⟨fun _ => ?_, fun e => absurd rfl e⟩
          rw [setF_last p ⟨p.n, p.text ++ codedL r, p.sure⟩ hlt rfl]
          refine ⟨hok2, pre, _, gp, gl ++ [r], c, rfl, by rw [List.append_assoc], hg, by simp only; rw [ht, textsL_append]; simp [textsL], by rw [List.length_append]; omega, ?_, hsu⟩
          rw [List.take_append_of_le_length hc]
          exact hcs

end Go.Proofs.YthhgfdeegnimjaaGreatDoor.Log

namespace Go.Proofs.YthhgfdeegnimjaaGreatDoor.Log
open Go.RowKit Heap Dsk
open Subj (ML)
open Rec (Rc recErr recA rcOf codedL ml_alloc)
open Sto (recsV RecsAt Fits parts sixC)

section
variable {W w : World} {F : Nat → Prop} {D G : Nat} {room size : Int} {A : List FileP}

/-- The second loop: the old blocks from the last one. -/
def R2 (W : World) (F : Nat → Prop) (D : Nat) (room : Int) (A : List FileP) (q : FileP) (nv : Value) (w1 : World) (k : Nat) (wr : World) : Prop :=
  DiskAt W F D room (A.take k ++ [q]) wr ∧ Row wr 3 1 nv A.length (numsV (A.map (·.n))) ∧ Heap.Touch F w1 wr

end
end Go.Proofs.YthhgfdeegnimjaaGreatDoor.Log

namespace Go.Proofs.YthhgfdeegnimjaaGreatDoor.Vlt
open Dsk Log
open Rec (Rc recErr codedL far)
open Sto (tryD after runS runS_step Right leftS lastS dist cntR hasSeq)
open Idx (Ents)

/-- A vault: the disk's files, the messages, the last number. -/
structure Vt where
  A : List FileP
  L : List Rc
  last : Int

/-- All that was done is on the disk, whole and sure. -/
def Whole (N : Nat) (s : Vt) : Prop := ∃ all, Log.Good s.A all ∧ (∀ r ∈ all, recErr r = 0) ∧ runS all = (s.L, s.last) ∧ all.length ≤ N

theorem Whole.new : Whole 0 ⟨[], [], 0⟩ := ⟨[], rfl, (fun _ h => by cases h), rfl, Nat.le_refl _⟩
theorem Whole.mono {N M : Nat} {s : Vt} (h : Whole N s) (hN : N ≤ M) : Whole M s := by
  obtain ⟨all, h1, h2, h3, h4⟩ := h
  exact ⟨all, h1, h2, h3, Nat.le_trans h4 hN⟩

theorem Whole.dist {N : Nat} {s : Vt} (h : Whole N s) : dist s.L ≤ 100 := by
  obtain ⟨all, _, _, hr, _⟩ := h
  have := Sto.dist_runS all
  rw [hr] at this
  exact this

end Go.Proofs.YthhgfdeegnimjaaGreatDoor.Vlt

namespace Go.Proofs.YthhgfdeegnimjaaGreatDoor.Vlt
open Go.RowKit Heap Dsk Log
open Subj (ML)
open Rec (Rc recErr recA rcOf codedL ml_alloc)
open Sto (StoreAt NextSt tryD after runS RecsAt Fits parts sixC recV recsV fourS)

def ptrV (b : Nat) : Value := .pointer (some ⟨b, 0, none⟩)

structure VParts (W : World) (F1 F2 : Nat → Prop) (V D G S B : Nat) (room size : Int) (s : Vt) (w : World) : Prop where
  cells : w.heap[V]? = some (.cells #[.pointer (some ⟨D, 0, none⟩), .pointer (some ⟨G, 0, none⟩), .pointer (some ⟨S, 0, none⟩), .int .i64 size] 268 (0, 0))
  disk : DiskAt W F1 D room s.A w
  log : LogAt D G size w
  store : StoreAt W F2 S B s.L s.last w
  apart : ∀ k, F1 k → ¬ F2 k
  lt1 : ∀ k, F1 k → k < w.heap.size
  g1 : ¬ F1 G
  g2 : ¬ F2 G
  v1 : ¬ F1 V
  v2 : ¬ F2 V
  oldG : W.heap.size ≤ G
  oldV : W.heap.size ≤ V
  sz : 1 ≤ size ∧ size ≤ 4096

/-- The vault at V, of the blocks F. -/
structure VAt (W : World) (F : Nat → Prop) (V D G S B : Nat) (room size : Int) (s : Vt) (w : World) : Prop where
  ex : ∃ F1 F2, VParts W F1 F2 V D G S B room size s w ∧ ∀ k, F1 k ∨ F2 k ∨ k = G ∨ k = V → F k
  newF : ∀ k, F k → W.heap.size ≤ k
  bF : ∀ k, F k → k < w.heap.size

/-- What a call at a vault leaves. -/
def NextVA (W : World) (F : Nat → Prop) (V D G S B : Nat) (room size : Int) (w : World) (s' : Vt) (w' : World) : Prop :=
  (∃ F', VAt W F' V D G S B room size s' w' ∧ ∀ k, F' k → F k ∨ w.heap.size ≤ k) ∧ Heap.Touch F w w'

section
variable {W w w1 w2 : World} {F F1 F2 : Nat → Prop} {V D G S B B' : Nat} {room size : Int} {s s1 s2 : Vt}

theorem VParts.ltG (h : VParts W F1 F2 V D G S B room size s w) : G < w.heap.size := heap_lt (show w.heap[G]? = _ from h.log)
theorem VParts.ltV (h : VParts W F1 F2 V D G S B room size s w) : V < w.heap.size := heap_lt h.cells
theorem VParts.low (h : VParts W F1 F2 V D G S B room size s w) (hb : Below w.heap.size w w1) : VParts W F1 F2 V D G S B room size s w1 :=
  { h with
    cells := (hb.block V h.ltV).trans h.cells
    disk := DiskAt.low h.disk hb
    log := h.log.below hb
    store := h.store.next hb
    lt1 := fun k hk => Nat.lt_of_lt_of_le (h.lt1 k hk) hb.size }

theorem VAt.below (h : VAt W F V D G S B room size s w) : Below W.heap.size W w := by
  obtain ⟨F1, F2, hP, _⟩ := h.ex
  exact hP.disk.below

theorem VAt.low (h : VAt W F V D G S B room size s w) (hb : Below w.heap.size w w1) : VAt W F V D G S B room size s w1 := by
  obtain ⟨F1, F2, hP, hF⟩ := h.ex
  exact ⟨⟨F1, F2, hP.low hb, hF⟩, h.newF, fun k hk => Nat.lt_of_lt_of_le (h.bF k hk) hb.size⟩

theorem VAt.kept (h : VAt W F V D G S B room size s w) (hb : Below W.heap.size W w1) (hsz : w.heap.size ≤ w1.heap.size) (hs : Same F w w1) : VAt W F V D G S B room size s w1 := by
  obtain ⟨F1, F2, hP, hF⟩ := h.ex
  have h1 : Same F1 w w1 := fun k hk hlt => hs k (hF k (.inl hk)) hlt
  have h2 : Same F2 w w1 := fun k hk hlt => hs k (hF k (.inr (.inl hk))) hlt
  have hd : DiskAt W F1 D room s.A w1 := by
    obtain ⟨M, β, X, hm⟩ := hP.disk.mem
    exact ⟨hP.disk.right, hb, hP.disk.newF, M, β, X, hm.kept h1⟩
  refine ⟨⟨F1, F2, { hP with cells := (hs V (hF V (.inr (.inr (.inr rfl)))) hP.ltV).trans hP.cells, disk := hd, log := (hs G (hF G (.inr (.inr (.inl rfl)))) hP.ltG).trans hP.log, store := hP.store.kept hb hsz h2, lt1 := fun k hk => Nat.lt_of_lt_of_le (hP.lt1 k hk) hsz }, hF⟩, h.newF, fun k hk => Nat.lt_of_lt_of_le (h.bF k hk) hsz⟩

theorem NextVA.same (h : VAt W F V D G S B room size s w) (hb : Below w.heap.size w w1) : NextVA W F V D G S B room size w s w1 :=
  ⟨⟨F, h.low hb, fun _ hk => .inl hk⟩, Heap.Touch.ofBelow hb⟩

theorem NextVA.trans {F' : Nat → Prop} (hF : ∀ k, F' k → F k ∨ w.heap.size ≤ k) (ht : Heap.Touch F w w1) (h : NextVA W F' V D G S B room size w1 s w2) : NextVA W F V D G S B room size w s w2 := by
  obtain ⟨⟨F2, h1, h2⟩, h3⟩ := h
  refine ⟨⟨F2, h1, fun k hk => ?_⟩, ht.trans h3 fun k hk hf => ?_⟩
  · rcases h2 k hk with e | e
    · exact hF k e
    · exact .inr (Nat.le_trans ht.size e)
  · rcases hF k hf with e | e
    · exact e
    · omega

end
end Go.Proofs.YthhgfdeegnimjaaGreatDoor.Vlt

namespace Go.Proofs.YthhgfdeegnimjaaGreatDoor.Vlt
open Go.RowKit Heap Dsk Log
open Subj (ML)
open Rec (Rc recErr recA rcOf codedL ml_alloc)
open Sto (StoreAt NextSt tryD after runS RecsAt Fits parts sixC recV recsV fourS apply_any)

section
variable {W w w1 : World} {F : Nat → Prop} {V D G S B : Nat} {room size : Int} {s : Vt}

end
end Go.Proofs.YthhgfdeegnimjaaGreatDoor.Vlt
