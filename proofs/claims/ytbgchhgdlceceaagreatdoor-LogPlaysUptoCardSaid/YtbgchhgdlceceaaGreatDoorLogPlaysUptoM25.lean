/- Parts of the proof, joined: The law LogPlays, walked: it returns true. -/
import Derived.Test.YtbgchhgdlceceaaGreatDoorLogPlaysUptoM24
namespace Go.Proofs.YtbgchhgdlceceaaGreatDoor.Log
open Go.RowKit Heap Dsk Drw
open Subj (ML)
open Rec (Rc recErr recA rcOf codedL decL)
open Sto (recsV recsV_append RecsAt Fits parts sixC recV row_recs equal_recs info_rec news_rec)
open Vlt (fits_ok)

structure NoteP where
  kind : Int
  num : Int
  rec_ : Rc

/-- A slice of notes. -/
def NotesAt (w : World) (ao : Option Addr) (n : Nat) (f : Nat → NoteP) : Prop :=
  0 < n → ∃ g off, ao = some ⟨g, off, none⟩ ∧ ∀ i, i < n →
    w.cell? ⟨g, off + i * 8, none⟩ = some (.int .i64 (f i).kind) ∧ w.cell? ⟨g, off + i * 8 + 1, none⟩ = some (.int .i64 (f i).num) ∧
    w.cell? ⟨g, off + i * 8 + 2, none⟩ = some (.int .i64 (f i).rec_.kind) ∧ w.cell? ⟨g, off + i * 8 + 3, none⟩ = some (.int .i64 (f i).rec_.seq) ∧ w.cell? ⟨g, off + i * 8 + 4, none⟩ = some (.int .i64 (f i).rec_.time) ∧
    w.cell? ⟨g, off + i * 8 + 5, none⟩ = some (.string ⟨(f i).rec_.subj.toArray⟩) ∧ w.cell? ⟨g, off + i * 8 + 6, none⟩ = some (.string ⟨(f i).rec_.head.toArray⟩) ∧ w.cell? ⟨g, off + i * 8 + 7, none⟩ = some (.string ⟨(f i).rec_.data.toArray⟩) ∧
    (-9223372036854775808 ≤ (f i).num ∧ (f i).num ≤ 9223372036854775807) ∧ Fits (f i).rec_

theorem eightC {bx : Nat} {a0 a1 a2 a3 a4 a5 a6 a7 : Value} {t : TypeId} {w : World} (h : w.heap[bx]? = some (.cells #[a0, a1, a2, a3, a4, a5, a6, a7] t (0, 0))) :
    w.cell? ⟨bx, 0, none⟩ = some a0 ∧ w.cell? ⟨bx, 1, none⟩ = some a1 ∧ w.cell? ⟨bx, 2, none⟩ = some a2 ∧ w.cell? ⟨bx, 3, none⟩ = some a3 ∧ w.cell? ⟨bx, 4, none⟩ = some a4 ∧ w.cell? ⟨bx, 5, none⟩ = some a5 ∧ w.cell? ⟨bx, 6, none⟩ = some a6 ∧ w.cell? ⟨bx, 7, none⟩ = some a7 := by
  refine ⟨?_, ?_, ?_, ?_, ?_, ?_, ?_, ?_⟩
  · rw [cell_of_row w bx 0 _ _ _ h]; rfl
  · rw [cell_of_row w bx 1 _ _ _ h]; rfl
  · rw [cell_of_row w bx 2 _ _ _ h]; rfl
  · rw [cell_of_row w bx 3 _ _ _ h]; rfl
  · rw [cell_of_row w bx 4 _ _ _ h]; rfl
  · rw [cell_of_row w bx 5 _ _ _ h]; rfl
  · rw [cell_of_row w bx 6 _ _ _ h]; rfl
  · rw [cell_of_row w bx 7 _ _ _ h]; rfl

/-- All that stands between two rounds. -/
def Lr (w : World) (D E : Nat) (room size : Int) (k g : Nat) (va : Value) (wr : World) : Prop := ∃ F Gx A all, Lq w F Gx D E g room size A A all va (66000 + k) wr

section
variable {w : World}

set_option maxHeartbeats 8000000 in
set_option maxRecDepth 100000 in
theorem logPlays_walk (hm : ML w) (fo : Option Addr) (fn fcap : Nat) (ff : Nat → ActP) (no : Option Addr) (n cap : Nat) (nf : Nat → NoteP) (room size : Int) (hfn : fn ≤ 9223372036854775807) (hn : n ≤ 9223372036854775807) (hA : ActsAt w fo fn ff) (hN : NotesAt w no n nf) :
    Calls Tryz.prog 5 #[.int .i64 room, .int .i64 size, .slice fo fn fcap, .slice no n cap] w fun e w' => e = .returned (.bool true) ∧ Below w.heap.size w w' := by
  have HML := Lib.hid hm; have HA := Lib.hid hA; have HN := Lib.hid hN
  clear hA hN hm
  by_cases hrm : 1 ≤ room ∧ room ≤ 65536
  · have HNW := Lib.hid (new_good (W := w) (w := w) (Below.refl _ _) room hrm.1 hrm.2)
    have HRN := Lib.hid (right_nil hrm.1 hrm.2)
    clear hrm
    go_enter Tryz.func5, Tryz.ntmps5
    go_wp2_with fail
    refine HNW.out.mono ?_
    rintro e w1 ⟨rfl, hD1, hb1⟩
    have HD1 := Lib.hid hD1; have HB1 := Lib.hid hb1
    clear hD1 hb1 HNW
    obtain ⟨D, hD⟩ : ∃ D, w.heap.size + 1 = D := ⟨_, rfl⟩
    rw [hD] at HD1 ⊢
    clear hD
    by_cases h60 : 60 < n
    · have h60z : (60 : Int) < n := by omega
      go_wp2_with fail
      go_ret
      exact ⟨rfl, HB1.out⟩
    · have h60z : ¬ (60 : Int) < n := by omega
      by_cases h30 : 30 < fn
      · have h30z : (30 : Int) < fn := by omega
        go_wp2_with fail
        go_ret
        exact ⟨rfl, HB1.out⟩
      · have h30z : ¬ (30 : Int) < fn := by omega
        obtain ⟨w2, hw2⟩ : ∃ w2, w2 = w1.alloc (.cells #[.int .i64 room, .slice none 0 0] 84) := ⟨_, rfl⟩
        have hb2 : Below w1.heap.size w1 w2 := by rw [hw2]; exact (Below.refl _ _).alloc (Nat.le_refl _) _
        have hE : w2.heap[w1.heap.size]? = some (.cells #[.int .i64 room, .slice none 0 0] 84 (0, 0)) := by rw [hw2]; exact heap_alloc_new w1 _
        have hP : Pair w (fun k => w.heap.size ≤ k ∧ k < w1.heap.size) (fun k => k = w1.heap.size) D w1.heap.size room [] [] w2 := by
          have hsz2 : w2.heap.size = w1.heap.size + 1 := by rw [hw2]; simp
          refine ⟨HD1.out.shrink.kept (hb2.mono HB1.out.size) (fun k _ hk => hb2.block k hk), ⟨HRN.out, HB1.out.trans (hb2.mono HB1.out.size), fun k hk => by have := HB1.out.size; omega, rfl, .slice none 0 0, hE, Row.nil _ _ _, fun k hk => by simp [own, Value.ownBlock] at hk⟩, fun k hk => by have := hk.2; omega, fun k hk => by omega, fun k hk e => by have := hk.2; omega⟩
        have HBO := Lib.hid (show Both w D w1.heap.size room w2 from ⟨_, _, _, hP⟩)
        obtain ⟨E, hEE⟩ : ∃ E, w1.heap.size = E := ⟨_, rfl⟩
        rw [hEE] at HBO
        have HEE := Lib.hid hEE
        clear hb2 hE hP HD1 HB1 hEE
        go_upto_region 5 with fail
        rw [← hw2, HEE.out]
        clear hw2
        go_wp2_with fail
        go_loopw [51] (fun i wr => ∃ k : Nat, k ≤ fn ∧ i = .int .i64 k ∧ Hid (Both w D E room wr)) (fun i _ => fn - (intOf i).toNat)
        case atStart => exact ⟨0, Nat.zero_le _, rfl, HBO⟩
        case round =>
          obtain ⟨k, hk, rfl, HR⟩ := hrel
          clear HBO
          by_cases hlt : k < fn
          · have hltz : (k : Int) < fn := by omega
            obtain ⟨g, off, rfl, hcs⟩ := HA.out (by omega)
            obtain ⟨d0, d1, d2, d3, r1, r2, r3⟩ := hcs k hlt
            generalize ff k = p at d0 d1 d2 d3 r1 r2 r3
            obtain ⟨kind, file, nm, text⟩ := p
            simp only at d0 d1 d2 d3 r1 r2 r3
            have hb := HR.out.below
            have hg : g < w.heap.size := World.block_lt_of_cell? w _ d0
            have hblk := hb.block g hg
            have x0 := (World.cell?_of_block (a := ⟨g, off + k * 4, none⟩) hblk).trans d0
            have x1 := (World.cell?_of_block (a := ⟨g, off + k * 4 + 1, none⟩) hblk).trans d1
            have x2 := (World.cell?_of_block (a := ⟨g, off + k * 4 + 2, none⟩) hblk).trans d2
            have x3 := (World.cell?_of_block (a := ⟨g, off + k * 4 + 3, none⟩) hblk).trans d3
            obtain ⟨wa, hwa⟩ : ∃ wa, wa = wr.alloc (.cells #[.int .i64 kind, .int .i64 file, .int .i64 nm, .string text] 86) := ⟨_, rfl⟩
            have hba : Below wr.heap.size wr wa := by rw [hwa]; exact (Below.refl _ _).alloc (Nat.le_refl _) _
            have hea : wa.heap[wr.heap.size]? = some (.cells #[.int .i64 kind, .int .i64 file, .int .i64 nm, .string text] 86 (0, 0)) := by rw [hwa]; exact heap_alloc_new wr _
            have hboth : Both w D E room wa := by
              obtain ⟨F, G, A, hP⟩ := HR.out
              exact ⟨F, G, A, hP.next hba⟩
            have HAT := Lib.hid (at_true hboth kind file nm text r1 r2 r3)
            obtain ⟨q0, q1, q2, q3⟩ := fourC hea
            clear d0 d1 d2 d3 r1 r2 r3 hcs hb hg hblk hba hea hboth HR
            go_upto_region 8 with fail
            rw [← hwa]
            clear hwa x0 x1 x2 x3
            go_wp2_with fail
            refine HAT.out.mono ?_
            rintro e w5 ⟨rfl, hb5⟩
            have HF := Lib.hid hb5
            clear hb5 HAT q0 q1 q2 q3
            go_wp2_with fail
            exact ⟨⟨k + 1, by omega, by go_num, HF⟩, by simp [intOf]; omega⟩
          · have hltz : ¬ (k : Int) < fn := by omega
            obtain ⟨F, Gx, A, hP⟩ := HR.out
            have HPP := Lib.hid hP
            clear hP HR
            have HOP := Lib.hid (open_any HPP.out.disk HML.out size)
            by_cases hsz : 1 ≤ size ∧ size ≤ 4096
            · have HI := Lib.hid fun w => in_yes size 1 4096 w hsz
              have HSZ := Lib.hid hsz
              clear hsz
              go_wp2_with fail
              refine HOP.out.mono ?_
              rintro e w3 (⟨hbad, _, _⟩ | ⟨_, g, v, rfl, hd3, hg3, hgl, hr3, ho3, ht3⟩)
              · exact absurd HSZ.out (by omega)
              have hp3 := pair_stay HPP.out hd3 ht3
              have HOQ := Lib.hid (opened_drw hp3.drawer hp3.bG)
              have H3 := Lib.hid (show ∀ e w4, OpenedPost w Gx E room w3 A e w4 → ∃ v2 G2, e = .returned v2 ∧ Lq w F G2 D E g room size (openD A).2 (openD A).2 (openD A).1 v2 (66000 + 0) w4 ∧ Row w4 33 6 v (openD A).1.length (recsV (openD A).1) from fun _ _ hop => Lq.opened HPP.out hd3 hg3 hgl hr3 ho3 ht3 hop HSZ.out (by omega))
              have hlen := openD_len HPP.out.disk.right
              obtain ⟨rn, hrn⟩ : ∃ rn, (openD A).1.length = rn := ⟨_, rfl⟩
              rw [hrn] at hr3 hlen
              obtain ⟨a3, c3, rfl⟩ := hr3.slice
              have HLEN := Lib.hid hlen; have HRN := Lib.hid hrn
              clear hp3 hd3 hg3 hgl hr3 ho3 ht3 HOP hlen hrn
              go_wp2_with fail
              refine (HI.out _).mono ?_
              rintro e w' ⟨rfl, rfl⟩
              go_wp2_with fail
              refine HOQ.out.mono ?_
              intro e w4 hop
              obtain ⟨v2, G2, rfl, hq4, hr4⟩ := H3.out _ _ hop
              have HEQ := Lib.hid (equal_recs (row_recs hr4) (row_recs hq4.row) (by rw [HRN.out]; have := HLEN.out; omega))
              have HQ4 := Lib.hid hq4
              clear hop hq4 hr4 HOQ H3
              go_wp2_with fail
              refine HEQ.out.mono ?_
              rintro e w' ⟨rfl, q, rfl⟩
              have hq5 := HQ4.out.next (below_drewN (Below.refl _ _) q)
              have HSM := Lib.hid (same_true hq5.disk hq5.drawer)
              have HQ5 := Lib.hid hq5
              clear hq5 HEQ HQ4
              go_wp2_with fail
              refine HSM.out.mono ?_
              rintro e w5 ⟨rfl, hb5⟩
              have h0 := Lib.hid (show Lr w D E room size 0 g v2 w5 from ⟨_, _, _, _, HQ5.out.next hb5⟩)
              clear hb5 HSM HQ5 HPP HRN HLEN
              go_wp2_with fail
              go_loopw [14, 16, 105] (fun sg sa i wr => ∃ (k g : Nat), k ≤ n ∧ i = .int .i64 k ∧ sg = .pointer (some ⟨g, 0, none⟩) ∧ Hid (Lr w D E room size k g sa wr)) (fun _ _ i _ => n - (intOf i).toNat)
              case atStart => exact ⟨0, g, Nat.zero_le _, rfl, rfl, h0⟩
              case round =>
                obtain ⟨k, g, hk, rfl, rfl, HR⟩ := hrel
                clear h0
                by_cases hlt : k < n
                · have hltz : (k : Int) < n := by omega
                  -- ROUND
                  obtain ⟨F, Gx, A, all, hq⟩ := HR.out
                  obtain ⟨gg, off, rfl, hcs⟩ := HN.out (by omega)
                  obtain ⟨d0, d1, d2, d3, d4, d5, d6, d7, r1, r2⟩ := hcs k hlt
                  generalize nf k = p at d0 d1 d2 d3 d4 d5 d6 d7 r1 r2
                  obtain ⟨kind, num, r⟩ := p
                  simp only at d0 d1 d2 d3 d4 d5 d6 d7 r1 r2
                  obtain ⟨sb, hd, d, hpp⟩ := parts r
                  have hrv : recV r = .agg #[.int .i64 r.kind, .int .i64 r.seq, .int .i64 r.time, .string sb, .string hd, .string d] := by rw [← hpp.s1, ← hpp.h1, ← hpp.d1]; rfl
                  have hrc := hpp.rc
                  have hss : sb.size ≤ 1048576 ∧ hd.size ≤ 1048576 ∧ d.size ≤ 1048576 := by rw [hpp.s3, hpp.h3, hpp.d3]; exact ⟨r2.s, r2.h, r2.d⟩
                  rw [hpp.s1] at d5
                  rw [hpp.h1] at d6
                  rw [hpp.d1] at d7
                  have hblk := hq.disk.below.block gg (World.block_lt_of_cell? w _ d0)
                  have x0 := (World.cell?_of_block (a := ⟨gg, off + k * 8, none⟩) hblk).trans d0
                  have x1 := (World.cell?_of_block (a := ⟨gg, off + k * 8 + 1, none⟩) hblk).trans d1
                  have x2 := (World.cell?_of_block (a := ⟨gg, off + k * 8 + 2, none⟩) hblk).trans d2
                  have x3 := (World.cell?_of_block (a := ⟨gg, off + k * 8 + 3, none⟩) hblk).trans d3
                  have x4 := (World.cell?_of_block (a := ⟨gg, off + k * 8 + 4, none⟩) hblk).trans d4
                  have x5 := (World.cell?_of_block (a := ⟨gg, off + k * 8 + 5, none⟩) hblk).trans d5
                  have x6 := (World.cell?_of_block (a := ⟨gg, off + k * 8 + 6, none⟩) hblk).trans d6
                  have x7 := (World.cell?_of_block (a := ⟨gg, off + k * 8 + 7, none⟩) hblk).trans d7
                  obtain ⟨wa, hwa⟩ : ∃ wa, wa = wr.alloc (.cells #[.int .i64 kind, .int .i64 num, .int .i64 r.kind, .int .i64 r.seq, .int .i64 r.time, .string sb, .string hd, .string d] 96) := ⟨_, rfl⟩
                  have hba : Below wr.heap.size wr wa := by rw [hwa]; exact (Below.refl _ _).alloc (Nat.le_refl _) _
                  have hea : wa.heap[wr.heap.size]? = some (.cells #[.int .i64 kind, .int .i64 num, .int .i64 r.kind, .int .i64 r.seq, .int .i64 r.time, .string sb, .string hd, .string d] 96 (0, 0)) := by rw [hwa]; exact heap_alloc_new wr _
                  obtain ⟨bx, hbx⟩ : ∃ bx, wr.heap.size = bx := ⟨_, rfl⟩
                  rw [hbx] at hea
                  have hqa := hq.next hba
                  have hnF : ¬ F bx := fun e => by have := hq.bF bx e; omega
                  have hnG : ¬ Gx bx := fun e => by have := hq.bG bx e; omega
                  have hnv : ¬ own u16 bx := fun e => by have := hq.row.lt bx e; omega
                  obtain ⟨L, hL⟩ : ∃ L, all.length = L := ⟨_, rfl⟩
                  have hLN : L ≤ 66000 + k := by rw [← hL]; exact hq.len
                  obtain ⟨q0, q1, q2, q3, q4, q5, q6, q7⟩ := eightC hea
                  have HQA := Lib.hid hqa; have HBX := Lib.hid hbx; have HEA := Lib.hid hea; have HNX := Lib.hid (And.intro hnF (And.intro hnG hnv)); have HRV := Lib.hid hrv; have HRC := Lib.hid hrc; have HSS := Lib.hid hss; have HR2 := Lib.hid r2; have HL := Lib.hid hL; have HRP := Lib.hid hpp
                  have HR1 := Lib.hid r1
                  clear hq hcs d0 d1 d2 d3 d4 d5 d6 d7 r1 r2 hpp hrv hrc hss hblk hba hea hqa hbx hnF hnG hnv hL HR
                  go_upto_region 20 with fail
                  rw [← hwa, HBX.out]
                  clear hwa x0 x1 x2 x3 x4 x5 x6 x7
                  by_cases k0 : kind = 0
                  · subst k0
                    have hlg := logged_drw HQA.out.drawer HQA.out.bG size HQA.out.sz r HR2.out
                    rw [HRV.out] at hlg
                    have HLG := Lib.hid hlg
                    clear hlg
                    go_wp2_with fail
                    refine HLG.out.mono ?_
                    rintro e w5 ⟨rfl, hd5, ht5⟩
                    have hq5 := HQA.out.drw hd5 ht5
                    have he5 : w5.heap[bx]? = _ := (ht5.block bx (heap_lt HEA.out) HNX.out.2.1).trans HEA.out
                    have hap := add_log r.kind r.seq r.time sb hd d HSS.out.1 HSS.out.2.1 HSS.out.2.2 hq5.disk HML.out hq5.log hq5.gF hq5.sz
                    rw [HRC.out] at hap
                    obtain ⟨er, her⟩ : ∃ er, (logD room size A r).2 = er := ⟨_, rfl⟩
                    obtain ⟨A9, hA9⟩ : ∃ A9, (logD room size A r).1 = A9 := ⟨_, rfl⟩
                    rw [hA9] at hq5
                    have HER := Lib.hid her; have HA9 := Lib.hid hA9
                    rw [her]
                    clear q0 q1 q2 q3 q4 q5 q6 q7
                    obtain ⟨q0, q1, q2, q3, q4, q5, q6, q7⟩ := eightC he5
                    have HQ5 := Lib.hid hq5; have HAP := Lib.hid hap; have HE5 := Lib.hid he5
                    unfold recA at HAP
                    clear hd5 ht5 hq5 he5 hap her hA9 HLG HQA HEA
                    go_wp2_with fail
                    refine HAP.out.mono ?_
                    rintro e w6 ⟨rfl, hd6, ht6⟩
                    rw [HER.out]
                    have hq6 := HQ5.out.dsk hd6 ht6
                    rw [HA9.out] at hq6
                    have he6 : w6.heap[bx]? = _ := (ht6.block bx (heap_lt HE5.out) HNX.out.1).trans HE5.out
                    clear q0 q1 q2 q3 q4 q5 q6 q7
                    obtain ⟨q0, q1, q2, q3, q4, q5, q6, q7⟩ := eightC he6
                    have hrw6 := hq6.row
                    rw [HL.out] at hrw6
                    obtain ⟨va, vc, rfl⟩ := hrw6.slice
                    have HQ6 := Lib.hid hq6; have HRW := Lib.hid hrw6; have HONE := Lib.hid (Sto.recsV_one [r])
                    obtain ⟨i0, hi, hz0, hz1, hz2⟩ := info_parts info_rec
                    clear hd6 ht6 hq6 he6 hrw6 HAP HQ5 HE5
                    go_wp2_with (at_builtin; refine Heap.wpList_append_row _ rfl (.tmp 124) (.tmp 127) 25 rfl 33 i0 _ 6 72 Tryz.underlying25 hi hz0 hz1 hz2 rfl (by decide) _ L _ rfl (HRW.out.kept (fun k _ hk => Below.heap_alloc w6 _ _ hk)) ⟨w6.heap.size, 0, none⟩ 1 1 [.int .i64 r.kind, .int .i64 r.seq, .int .i64 r.time, .string sb, .string hd, .string d] rfl rfl (news_rec w6 _ _ _ _ _ _ _) (by simp [Value.oneCell']) (by unfold maxLen; omega) (by omega) ?_)
                    intro v9 w9 r9 t9 o9
                    have hal : Below w6.heap.size w6 (w6.alloc (.cells #[.int .i64 r.kind, .int .i64 r.seq, .int .i64 r.time, .string sb, .string hd, .string d] 33)) := (Below.refl _ _).alloc (Nat.le_refl _) _
                    have HQ9 := Lib.hid (show Lq w _ _ D E g room size A9 A9 (all ++ [r]) v9 (66000 + (k + 1)) w9 from HQ6.out.list ((Heap.Touch.ofBelow hal).after t9) (by
                        rw [List.length_append, List.length_singleton, HL.out, recsV_append, show recsV [r] = [.int .i64 r.kind, .int .i64 r.seq, .int .i64 r.time, .string sb, .string hd, .string d] from by rw [← HRP.out.s1, ← HRP.out.h1, ← HRP.out.d1]; rfl]
                        exact r9) (fun j hj => (o9 j hj).imp id fun e => by have := hal.size; omega) (fun x hx => by
                        rcases List.mem_append.1 hx with hx | hx
                        · exact HQ6.out.fits x hx
                        · simp at hx; subst hx; exact HR2.out) (by rw [List.length_append, List.length_singleton, HL.out]; omega))
                    clear r9 t9 o9 hal q0 q1 q2 q3 q4 q5 q6 q7 HQ6 HRW HONE
                    have HSM := Lib.hid (same_true HQ9.out.disk HQ9.out.drawer)
                    go_wp2_with fail
                    refine HSM.out.mono ?_
                    rintro e w10 ⟨rfl, hb10⟩
                    have HQ10 := Lib.hid (HQ9.out.next hb10)
                    have HBL := Lib.hid (blocks_any HQ10.out.disk HQ10.out.log)
                    clear hb10 HSM HQ9
                    go_wp2_with fail
                    refine HBL.out.mono ?_
                    rintro e w11 ⟨nv, rfl, hb11, hr11, ho11⟩
                    have HQ11 := Lib.hid (HQ10.out.next hb11)
                    have HR11 := Lib.hid hr11
                    have HLS := Lib.hid (list_drw HQ11.out.drawer)
                    clear hb11 hr11 ho11 HBL HQ10
                    go_wp2_with fail
                    refine HLS.out.mono ?_
                    rintro e w12 ⟨nv2, rfl, hb12, hr12, ho12⟩
                    have HQ12 := Lib.hid (HQ11.out.next hb12)
                    have HEQ2 := Lib.hid (equal_rows (HR11.out.kept fun k _ hk => hb12.block k hk) hr12 (by rw [List.length_map]; have := HQ11.out.disk.right.few; omega))
                    clear hb12 hr12 ho12 HLS HQ11 HR11
                    go_wp2_with fail
                    refine HEQ2.out.mono ?_
                    rintro e w13 ⟨rfl, hb13⟩
                    have HNXT := Lib.hid (show Lr w D E room size (k + 1) g v9 w13 from ⟨_, _, _, _, HQ12.out.next hb13⟩)
                    clear hb13 HEQ2 HQ12
                    go_wp2_with fail
                    exact ⟨⟨k + 1, g, by omega, by go_num, rfl, HNXT⟩, by simp [intOf]; omega⟩
                  · by_cases k1 : kind = 1
                    · subst k1
                      have HSY := Lib.hid (sync_log HQA.out.disk HQA.out.log)
                      go_wp2_with fail
                      refine HSY.out.mono ?_
                      rintro e w5 ⟨rfl, hd5, ht5⟩
                      have hq5 := HQA.out.dsk (hd5.mono (fun k hk => .inl hk) (Grow.new HQA.out.disk)) ht5
                      obtain ⟨v5, h1, h2, h3⟩ := hq5.drawer.mem
                      obtain ⟨c0, c1, cf⟩ := drawCells h1
                      obtain ⟨m, hm⟩ : ∃ m, A.length = m := ⟨_, rfl⟩
                      rw [hm] at h2
                      obtain ⟨va, vc, rfl⟩ := h2.slice
                      cases hla : A.getLast? with
                      | none =>
                        have hA0 := last_none hla
                        have hm0 : m = 0 := by rw [← hm, hA0]; rfl
                        subst hm0
                        have hsl : syncL A = A := by unfold syncL; rw [hla]
                        rw [hsl] at hq5
                        have HQ9 := Lib.hid (show Lq w _ _ D E g room size A A all u16 (66000 + (k + 1)) w5 from { hq5 with len := Nat.le_trans hq5.len (by omega) })
                        clear h1 h2 h3 hm hla hA0 hsl hq5 hd5 ht5 HSY HQA HEA q0 q1 q2 q3 q4 q5 q6 q7
                        have HSM := Lib.hid (same_true HQ9.out.disk HQ9.out.drawer)
                        go_wp2_with fail
                        refine HSM.out.mono ?_
                        rintro e w10 ⟨rfl, hb10⟩
                        have HQ10 := Lib.hid (HQ9.out.next hb10)
                        have HBL := Lib.hid (blocks_any HQ10.out.disk HQ10.out.log)
                        clear hb10 HSM HQ9
                        go_wp2_with fail
                        refine HBL.out.mono ?_
                        rintro e w11 ⟨nv, rfl, hb11, hr11, ho11⟩
                        have HQ11 := Lib.hid (HQ10.out.next hb11)
                        have HR11 := Lib.hid hr11
                        have HLS := Lib.hid (list_drw HQ11.out.drawer)
                        clear hb11 hr11 ho11 HBL HQ10
                        go_wp2_with fail
                        refine HLS.out.mono ?_
                        rintro e w12 ⟨nv2, rfl, hb12, hr12, ho12⟩
                        have HQ12 := Lib.hid (HQ11.out.next hb12)
                        have HEQ2 := Lib.hid (equal_rows (HR11.out.kept fun k _ hk => hb12.block k hk) hr12 (by rw [List.length_map]; have := HQ11.out.disk.right.few; omega))
                        clear hb12 hr12 ho12 HLS HQ11 HR11
                        go_wp2_with fail
                        refine HEQ2.out.mono ?_
                        rintro e w13 ⟨rfl, hb13⟩
                        have HNXT := Lib.hid (show Lr w D E room size (k + 1) g u16 w13 from ⟨_, _, _, _, HQ12.out.next hb13⟩)
                        clear hb13 HEQ2 HQ12
                        go_wp2_with fail
                        exact ⟨⟨k + 1, g, by omega, by go_num, rfl, HNXT⟩, by simp [intOf]; omega⟩
                      | some p =>
                        obtain ⟨hmem, hpos, hget⟩ := last_some hla
                        rw [hm] at hpos hget
                        obtain ⟨g2, off2, rfl⟩ : ∃ g off, va = some ⟨g, off, none⟩ := by
                          rcases h2.2 with ⟨_, e0⟩ | ⟨g, off, cap, cur, e, _⟩
                          · omega
                          · simp only [Value.slice.injEq] at e; exact ⟨g, off, e.1⟩
                        obtain ⟨d0, d1, d2⟩ := cells_pull h2 (m - 1) p hget (by omega)
                        have hmz : (0 : Int) < (m : Nat) := by omega
                        have hsl : syncL A = (syncD A p.n).1 := by unfold syncL; rw [hla]
                        have HSY2 := Lib.hid (sync_drw hq5.drawer p.n)
                        have HQ5 := Lib.hid hq5; have HSL := Lib.hid hsl
                        have hm20 : m ≤ 20 := by rw [← hm]; exact hq5.drawer.right.few
                        clear h1 h2 h3 hm hla hmem hget hsl hq5 hd5 ht5 HSY HQA HEA q0 q1 q2 q3 q4 q5 q6 q7 d1 d2
                        go_wp2_with fail
                        refine HSY2.out.mono ?_
                        rintro e w6 ⟨rfl, hd6, ht6⟩
                        rw [← HSL.out] at hd6
                        have hq6 := HQ5.out.drw (hd6.mono (fun k hk => .inl hk) (fun k hk => hk.elim (HQ5.out.drawer.newG k) fun e => Nat.le_trans HQ5.out.drawer.below.size e)) ht6
                        have HQ9 := Lib.hid (show Lq w _ _ D E g room size (syncL A) (syncL A) all u16 (66000 + (k + 1)) w6 from { hq6 with len := Nat.le_trans hq6.len (by omega) })
                        clear hd6 ht6 hq6 HSY2 HQ5 HSL c0 c1 cf d0
                        have HSM := Lib.hid (same_true HQ9.out.disk HQ9.out.drawer)
                        go_wp2_with fail
                        refine HSM.out.mono ?_
                        rintro e w10 ⟨rfl, hb10⟩
                        have HQ10 := Lib.hid (HQ9.out.next hb10)
                        have HBL := Lib.hid (blocks_any HQ10.out.disk HQ10.out.log)
                        clear hb10 HSM HQ9
                        go_wp2_with fail
                        refine HBL.out.mono ?_
                        rintro e w11 ⟨nv, rfl, hb11, hr11, ho11⟩
                        have HQ11 := Lib.hid (HQ10.out.next hb11)
                        have HR11 := Lib.hid hr11
                        have HLS := Lib.hid (list_drw HQ11.out.drawer)
                        clear hb11 hr11 ho11 HBL HQ10
                        go_wp2_with fail
                        refine HLS.out.mono ?_
                        rintro e w12 ⟨nv2, rfl, hb12, hr12, ho12⟩
                        have HQ12 := Lib.hid (HQ11.out.next hb12)
                        have HEQ2 := Lib.hid (equal_rows (HR11.out.kept fun k _ hk => hb12.block k hk) hr12 (by rw [List.length_map]; have := HQ11.out.disk.right.few; omega))
                        clear hb12 hr12 ho12 HLS HQ11 HR11
                        go_wp2_with fail
                        refine HEQ2.out.mono ?_
                        rintro e w13 ⟨rfl, hb13⟩
                        have HNXT := Lib.hid (show Lr w D E room size (k + 1) g u16 w13 from ⟨_, _, _, _, HQ12.out.next hb13⟩)
                        clear hb13 HEQ2 HQ12
                        go_wp2_with fail
                        exact ⟨⟨k + 1, g, by omega, by go_num, rfl, HNXT⟩, by simp [intOf]; omega⟩
                    · by_cases k2 : kind = 2
                      · subst k2
                        obtain ⟨m, hm⟩ : ∃ m : Nat, num % ((L : Int) + 1) = (m : Int) := ⟨(num % ((L : Int) + 1)).toNat, by have := Int.emod_nonneg num (show (L : Int) + 1 ≠ 0 by omega); omega⟩
                        have hmL : m ≤ L := by have := Int.emod_lt_of_pos num (show (0 : Int) < (L : Int) + 1 by omega); omega
                        have HRE := Lib.hid fun w => Pack.rest_any num ((L : Int) + 1) w (by omega) (by omega)
                        rw [hm] at HRE
                        obtain ⟨kk, hkk⟩ : ∃ kk : Nat, (L : Int) - (m : Int) = (kk : Int) := ⟨L - m, by omega⟩
                        have hkL : kk ≤ L := by omega
                        have HKK := Lib.hid hkk
                        have hrwa := HQA.out.row
                        rw [HL.out] at hrwa
                        obtain ⟨va, vc, rfl⟩ := hrwa.slice
                        have hdl : (all.drop kk).length = L - kk := by rw [List.length_drop, HL.out]
                        have hfd : ∀ x ∈ all.drop kk, Fits x := fun x hx => HQA.out.fits x (List.mem_of_mem_drop hx)
                        obtain ⟨xa, hxa⟩ : ∃ xa, xa = wa.drew := ⟨_, rfl⟩
                        have hbxa : Below wa.heap.size wa wa.drew := (Below.refl _ _).drew
                        have HQX := Lib.hid (HQA.out.next hbxa)
                        have HEX := Lib.hid (show wa.drew.heap[bx]? = _ from HEA.out)
                        have HDL := Lib.hid hdl; have HFD := Lib.hid hfd
                        rcases hrwa.2 with ⟨e1, e2⟩ | ⟨g0, off0, cap0, cur0, e1, _, hLc, _⟩
                        · simp only [Value.slice.injEq] at e1
                          obtain ⟨rfl, _, rfl⟩ := e1
                          have hk0 : kk = 0 := by omega
                          have hall : all.drop kk = [] := List.eq_nil_of_length_eq_zero (by rw [HDL.out]; omega)
                          subst e2
                          subst hk0
                          obtain rfl : m = 0 := by omega
                          have HREC := Lib.hid (show ∀ w' : World, Heap.Touch F wa.drew w' → RecsAt w' (.slice none 0 0) (all.drop 0) from fun w' _ => ⟨none, 0, by rw [hall]; rfl, fun e => absurd hall e⟩)
                          have hrw := rew_log (HREC.out _ (Heap.Touch.refl _ _)) (by rw [HDL.out]; omega) HFD.out HQX.out.disk HML.out HQX.out.log HQX.out.gF HQX.out.sz
                          have HRW := Lib.hid hrw
                          clear hrw hdl hfd hbxa
                          go_wp2_with fail
                          refine (HRE.out _).mono ?_
                          rintro e w' ⟨rfl, rfl⟩
                          go_upto_region 33 with fail
                          obtain ⟨z0, z1, z2, z3, z4, z5, z6, z7⟩ := eightC HEX.out
                          go_region_held3 (fun w' => w'.cell? ⟨bx, 0, none⟩ = some (.int .i64 2)) (first | (with_reducible exact q0) | (with_reducible exact z0) | (with_reducible exact s0) | (with_reducible exact t0) | go_keep)
                            (first
                              | (go_at_call 52; ((refine HRW.out.mono ?_); rintro e w5 ⟨rfl, hd5, ht5⟩; have hq5 := HQX.out.dsk hd5 ht5; have e5 : w5.heap[bx]? = _ := (ht5.block bx (heap_lt HEX.out) HNX.out.1).trans HEX.out; obtain ⟨s0, s1, s2, s3, s4, s5, s6, s7⟩ := eightC e5; have hrd := rewritten_drw (size := size) hq5.drawer hq5.bG (HREC.out _ ht5) (by rw [HDL.out]; omega) HFD.out))
                              | (go_at_call 53; ((refine hrd.mono ?_); rintro e w6 ⟨rfl, hd6, ht6⟩; have hq6 := hq5.drw hd6 ht6; have e6 : w6.heap[bx]? = _ := (ht6.block bx (heap_lt e5) HNX.out.2.1).trans e5; obtain ⟨t0, t1, t2, t3, t4, t5, t6, t7⟩ := eightC e6)))
                          have HQ9 := Lib.hid (show Lq w _ _ D E g room size _ _ all _ (66000 + (k + 1)) w6 from { hq6 with len := Nat.le_trans hq6.len (by omega) })
                          clear hq6 hq5 e5 e6 hd5 ht5 hd6 ht6 hrd s0 s1 s2 s3 s4 s5 s6 s7 t0 t1 t2 t3 t4 t5 t6 t7 z0 z1 z2 z3 z4 z5 z6 z7 q0 q1 q2 q3 q4 q5 q6 q7 HRW HREC HQX HEX HDL HFD HQA HEA HRE
                          generalize (rewD room size A (all.drop 0)).2 = er at *
                          have HSM := Lib.hid (same_true HQ9.out.disk HQ9.out.drawer)
                          go_wp2_with fail
                          refine HSM.out.mono ?_
                          rintro e w10 ⟨rfl, hb10⟩
                          have HQ10 := Lib.hid (HQ9.out.next hb10)
                          have HBL := Lib.hid (blocks_any HQ10.out.disk HQ10.out.log)
                          clear hb10 HSM HQ9
                          go_wp2_with fail
                          refine HBL.out.mono ?_
                          rintro e w11 ⟨nv, rfl, hb11, hr11, ho11⟩
                          have HQ11 := Lib.hid (HQ10.out.next hb11)
                          have HR11 := Lib.hid hr11
                          have HLS := Lib.hid (list_drw HQ11.out.drawer)
                          clear hb11 hr11 ho11 HBL HQ10
                          go_wp2_with fail
                          refine HLS.out.mono ?_
                          rintro e w12 ⟨nv2, rfl, hb12, hr12, ho12⟩
                          have HQ12 := Lib.hid (HQ11.out.next hb12)
                          have HEQ2 := Lib.hid (equal_rows (HR11.out.kept fun k _ hk => hb12.block k hk) hr12 (by rw [List.length_map]; have := HQ11.out.disk.right.few; omega))
                          clear hb12 hr12 ho12 HLS HQ11 HR11
                          go_wp2_with fail
                          refine HEQ2.out.mono ?_
                          rintro e w13 ⟨rfl, hb13⟩
                          have HNXT := Lib.hid (show Lr w D E room size (k + 1) g _ w13 from ⟨_, _, _, _, HQ12.out.next hb13⟩)
                          clear hb13 HEQ2 HQ12
                          go_wp2_with fail
                          exact ⟨⟨k + 1, g, by omega, by go_num, rfl, HNXT⟩, by simp [intOf]; omega⟩
                        · simp only [Value.slice.injEq, true_and] at e1
                          obtain ⟨rfl, rfl⟩ := e1
                          have HRES := Lib.hid (show ∀ w' : World, Heap.Touch F wa.drew w' → RecsAt w' (.slice (some (if vc = kk then ⟨g0, off0, none⟩ else ⟨g0, off0 + kk * 6, none⟩)) (L - kk) (vc - kk)) (all.drop kk) from fun w' ht => by
                            have h1 := (hrwa.kept (w' := w') fun j hj hlt => ht.block j hlt (HQA.out.own_ j hj).1).rest kk hkL
                            rw [Sto.recsV_drop, ← HDL.out] at h1
                            have h2 := row_recs h1
                            rw [HDL.out] at h2
                            exact h2)
                          by_cases hck : vc = kk
                          · obtain rfl : L = kk := by omega
                            obtain rfl : L = vc := by omega
                            obtain rfl : m = 0 := by omega
                            have hall : all.drop L = [] := List.eq_nil_of_length_eq_zero (by rw [HDL.out]; omega)
                            have HREC := Lib.hid (show ∀ w' : World, Heap.Touch F wa.drew w' → RecsAt w' (.slice (some ⟨g0, off0, none⟩) 0 0) (all.drop L) from fun w' _ => ⟨some ⟨g0, off0, none⟩, 0, by rw [hall]; rfl, fun e => absurd hall e⟩)
                            clear HRES hkk hck hall
                            have hrw := rew_log (HREC.out _ (Heap.Touch.refl _ _)) (by rw [HDL.out]; omega) HFD.out HQX.out.disk HML.out HQX.out.log HQX.out.gF HQX.out.sz
                            have HRW := Lib.hid hrw
                            clear hrw hdl hfd hbxa
                            go_wp2_with fail
                            refine (HRE.out _).mono ?_
                            rintro e w' ⟨rfl, rfl⟩
                            go_upto_region 33 with fail
                            obtain ⟨z0, z1, z2, z3, z4, z5, z6, z7⟩ := eightC HEX.out
                            go_region_held3 (fun w' => w'.cell? ⟨bx, 0, none⟩ = some (.int .i64 2)) (first | (with_reducible exact q0) | (with_reducible exact z0) | (with_reducible exact s0) | (with_reducible exact t0) | go_keep)
                              (first
                                | (go_at_call 52; ((refine HRW.out.mono ?_); rintro e w5 ⟨rfl, hd5, ht5⟩; have hq5 := HQX.out.dsk hd5 ht5; have e5 : w5.heap[bx]? = _ := (ht5.block bx (heap_lt HEX.out) HNX.out.1).trans HEX.out; obtain ⟨s0, s1, s2, s3, s4, s5, s6, s7⟩ := eightC e5; have hrd := rewritten_drw (size := size) hq5.drawer hq5.bG (HREC.out _ ht5) (by rw [HDL.out]; omega) HFD.out))
                                | (go_at_call 53; ((refine hrd.mono ?_); rintro e w6 ⟨rfl, hd6, ht6⟩; have hq6 := hq5.drw hd6 ht6; have e6 : w6.heap[bx]? = _ := (ht6.block bx (heap_lt e5) HNX.out.2.1).trans e5; obtain ⟨t0, t1, t2, t3, t4, t5, t6, t7⟩ := eightC e6)))
                            have HQ9 := Lib.hid (show Lq w _ _ D E g room size _ _ all _ (66000 + (k + 1)) w6 from { hq6 with len := Nat.le_trans hq6.len (by omega) })
                            clear hq6 hq5 e5 e6 hd5 ht5 hd6 ht6 hrd s0 s1 s2 s3 s4 s5 s6 s7 t0 t1 t2 t3 t4 t5 t6 t7 z0 z1 z2 z3 z4 z5 z6 z7 q0 q1 q2 q3 q4 q5 q6 q7 HRW HREC HQX HEX HDL HFD HQA HEA HRE
                            generalize (rewD room size A (all.drop L)).2 = er at *
                            have HSM := Lib.hid (same_true HQ9.out.disk HQ9.out.drawer)
                            go_wp2_with fail
                            refine HSM.out.mono ?_
                            rintro e w10 ⟨rfl, hb10⟩
                            have HQ10 := Lib.hid (HQ9.out.next hb10)
                            have HBL := Lib.hid (blocks_any HQ10.out.disk HQ10.out.log)
                            clear hb10 HSM HQ9
                            go_wp2_with fail
                            refine HBL.out.mono ?_
                            rintro e w11 ⟨nv, rfl, hb11, hr11, ho11⟩
                            have HQ11 := Lib.hid (HQ10.out.next hb11)
                            have HR11 := Lib.hid hr11
                            have HLS := Lib.hid (list_drw HQ11.out.drawer)
                            clear hb11 hr11 ho11 HBL HQ10
                            go_wp2_with fail
                            refine HLS.out.mono ?_
                            rintro e w12 ⟨nv2, rfl, hb12, hr12, ho12⟩
                            have HQ12 := Lib.hid (HQ11.out.next hb12)
                            have HEQ2 := Lib.hid (equal_rows (HR11.out.kept fun k _ hk => hb12.block k hk) hr12 (by rw [List.length_map]; have := HQ11.out.disk.right.few; omega))
                            clear hb12 hr12 ho12 HLS HQ11 HR11
                            go_wp2_with fail
                            refine HEQ2.out.mono ?_
                            rintro e w13 ⟨rfl, hb13⟩
                            have HNXT := Lib.hid (show Lr w D E room size (k + 1) g _ w13 from ⟨_, _, _, _, HQ12.out.next hb13⟩)
                            clear hb13 HEQ2 HQ12
                            go_wp2_with fail
                            exact ⟨⟨k + 1, g, by omega, by go_num, rfl, HNXT⟩, by simp [intOf]; omega⟩
                          · have HREC := Lib.hid (show ∀ w' : World, Heap.Touch F wa.drew w' → RecsAt w' (.slice (some ⟨g0, off0 + kk * 6, none⟩) (L - kk) (vc - kk)) (all.drop kk) from fun w' ht => by
                              have := HRES.out w' ht
                              rw [if_neg hck] at this; exact this)
                            clear HRES
                            have hrw := rew_log (HREC.out _ (Heap.Touch.refl _ _)) (by rw [HDL.out]; omega) HFD.out HQX.out.disk HML.out HQX.out.log HQX.out.gF HQX.out.sz
                            have HRW := Lib.hid hrw
                            clear hrw hdl hfd hbxa
                            go_wp2_with fail
                            refine (HRE.out _).mono ?_
                            rintro e w' ⟨rfl, rfl⟩
                            go_upto_region 33 with fail
                            obtain ⟨z0, z1, z2, z3, z4, z5, z6, z7⟩ := eightC HEX.out
                            go_region_held3 (fun w' => w'.cell? ⟨bx, 0, none⟩ = some (.int .i64 2)) (first | (with_reducible exact q0) | (with_reducible exact z0) | (with_reducible exact s0) | (with_reducible exact t0) | go_keep)
                              (first
                                | (go_at_call 52; ((refine HRW.out.mono ?_); rintro e w5 ⟨rfl, hd5, ht5⟩; have hq5 := HQX.out.dsk hd5 ht5; have e5 : w5.heap[bx]? = _ := (ht5.block bx (heap_lt HEX.out) HNX.out.1).trans HEX.out; obtain ⟨s0, s1, s2, s3, s4, s5, s6, s7⟩ := eightC e5; have hrd := rewritten_drw (size := size) hq5.drawer hq5.bG (HREC.out _ ht5) (by rw [HDL.out]; omega) HFD.out))
                                | (go_at_call 53; ((refine hrd.mono ?_); rintro e w6 ⟨rfl, hd6, ht6⟩; have hq6 := hq5.drw hd6 ht6; have e6 : w6.heap[bx]? = _ := (ht6.block bx (heap_lt e5) HNX.out.2.1).trans e5; obtain ⟨t0, t1, t2, t3, t4, t5, t6, t7⟩ := eightC e6)))
                            have HQ9 := Lib.hid (show Lq w _ _ D E g room size _ _ all _ (66000 + (k + 1)) w6 from { hq6 with len := Nat.le_trans hq6.len (by omega) })
                            clear hq6 hq5 e5 e6 hd5 ht5 hd6 ht6 hrd s0 s1 s2 s3 s4 s5 s6 s7 t0 t1 t2 t3 t4 t5 t6 t7 z0 z1 z2 z3 z4 z5 z6 z7 q0 q1 q2 q3 q4 q5 q6 q7 HRW HREC HQX HEX HDL HFD HQA HEA HRE
                            generalize (rewD room size A (all.drop kk)).2 = er at *
                            have HSM := Lib.hid (same_true HQ9.out.disk HQ9.out.drawer)
                            go_wp2_with fail
                            refine HSM.out.mono ?_
                            rintro e w10 ⟨rfl, hb10⟩
                            have HQ10 := Lib.hid (HQ9.out.next hb10)
                            have HBL := Lib.hid (blocks_any HQ10.out.disk HQ10.out.log)
                            clear hb10 HSM HQ9
                            go_wp2_with fail
                            refine HBL.out.mono ?_
                            rintro e w11 ⟨nv, rfl, hb11, hr11, ho11⟩
                            have HQ11 := Lib.hid (HQ10.out.next hb11)
                            have HR11 := Lib.hid hr11
                            have HLS := Lib.hid (list_drw HQ11.out.drawer)
                            clear hb11 hr11 ho11 HBL HQ10
                            go_wp2_with fail
                            refine HLS.out.mono ?_
                            rintro e w12 ⟨nv2, rfl, hb12, hr12, ho12⟩
                            have HQ12 := Lib.hid (HQ11.out.next hb12)
                            have HEQ2 := Lib.hid (equal_rows (HR11.out.kept fun k _ hk => hb12.block k hk) hr12 (by rw [List.length_map]; have := HQ11.out.disk.right.few; omega))
                            clear hb12 hr12 ho12 HLS HQ11 HR11
                            go_wp2_with fail
                            refine HEQ2.out.mono ?_
                            rintro e w13 ⟨rfl, hb13⟩
                            have HNXT := Lib.hid (show Lr w D E room size (k + 1) g _ w13 from ⟨_, _, _, _, HQ12.out.next hb13⟩)
                            clear hb13 HEQ2 HQ12
                            go_wp2_with fail
                            exact ⟨⟨k + 1, g, by omega, by go_num, rfl, HNXT⟩, by simp [intOf]; omega⟩
                      · by_cases k3 : kind = 3
                        · subst k3
                          obtain ⟨K, hK⟩ : ∃ K, num.toNat = K := ⟨_, rfl⟩
                          have hc1 := crash_any HQA.out.disk num
                          rw [hK] at hc1
                          have HC1 := Lib.hid hc1; have HKK := Lib.hid hK
                          clear hc1 hK
                          go_wp2_with fail
                          refine HC1.out.mono ?_
                          rintro e w5 ⟨rfl, hd5, ht5⟩
                          have hq5 := HQA.out.dsk (hd5.mono (fun k hk => .inl hk) (Grow.new HQA.out.disk)) ht5
                          have he5 : w5.heap[bx]? = _ := (ht5.block bx (heap_lt HEA.out) HNX.out.1).trans HEA.out
                          clear q0 q1 q2 q3 q4 q5 q6 q7
                          obtain ⟨q0, q1, q2, q3, q4, q5, q6, q7⟩ := eightC he5
                          have hc2 := crash_drw hq5.drawer num HR1.out
                          rw [HKK.out] at hc2
                          have HC2 := Lib.hid hc2; have HQ5 := Lib.hid hq5
                          clear hd5 ht5 hq5 he5 hc2 HC1 HQA HEA
                          go_wp2_with fail
                          refine HC2.out.mono ?_
                          rintro e w6 ⟨rfl, hd6, ht6⟩
                          have hq6 := HQ5.out.drw (hd6.mono (fun k hk => .inl hk) (fun k hk => hk.elim (HQ5.out.drawer.newG k) fun e => Nat.le_trans HQ5.out.drawer.below.size e)) ht6
                          obtain ⟨A6, hA6⟩ : ∃ A6, crashD A K = A6 := ⟨_, rfl⟩
                          rw [hA6] at hq6
                          have HQ6 := Lib.hid hq6
                          have HOP := Lib.hid (open_any hq6.disk HML.out size)
                          clear hd6 ht6 hq6 hA6 HC2 HQ5 q0 q1 q2 q3 q4 q5 q6 q7
                          go_wp2_with fail
                          refine HOP.out.mono ?_
                          rintro e w7 (⟨hbad, _, _⟩ | ⟨_, g7, v7, rfl, hd7, hg7, hgl7, hr7, ho7, ht7⟩)
                          · exact absurd HSZ.out (by omega)
                          have hp7 := pair_stay HQ6.out.pair hd7 ht7
                          have HOQ := Lib.hid (opened_drw hp7.drawer hp7.bG)
                          have H7 := Lib.hid (show ∀ e w4, OpenedPost w _ E room w7 A6 e w4 → ∃ v2 G2, e = .returned v2 ∧ Lq w _ G2 D E g7 room size (openD A6).2 (openD A6).2 (openD A6).1 v2 (66000 + (k + 1)) w4 ∧ Row w4 33 6 v7 (openD A6).1.length (recsV (openD A6).1) from fun _ _ hop => Lq.opened HQ6.out.pair hd7 hg7 hgl7 hr7 ho7 ht7 hop HSZ.out (by omega))
                          have hlen := openD_len HQ6.out.disk.right
                          obtain ⟨rn7, hrn7⟩ : ∃ rn, (openD A6).1.length = rn := ⟨_, rfl⟩
                          rw [hrn7] at hr7 hlen
                          obtain ⟨a7, c7, rfl⟩ := hr7.slice
                          have HLEN := Lib.hid hlen; have HRN := Lib.hid hrn7
                          clear hp7 hd7 hg7 hgl7 hr7 ho7 ht7 HOP hlen hrn7 HQ6
                          go_wp2_with fail
                          refine HOQ.out.mono ?_
                          intro e w8 hop
                          obtain ⟨v8, G8, rfl, hq8, hr8⟩ := H7.out _ _ hop
                          have HEQ := Lib.hid (equal_recs (row_recs hr8) (row_recs hq8.row) (by rw [HRN.out]; have := HLEN.out; omega))
                          have HQ8 := Lib.hid hq8
                          clear hop hq8 hr8 HOQ H7
                          go_wp2_with fail
                          refine HEQ.out.mono ?_
                          rintro e w' ⟨rfl, q, rfl⟩
                          have HQ9 := Lib.hid (HQ8.out.next (below_drewN (Below.refl _ _) q))
                          clear HEQ HQ8 HRN HLEN
                          have HSM := Lib.hid (same_true HQ9.out.disk HQ9.out.drawer)
                          go_wp2_with fail
                          refine HSM.out.mono ?_
                          rintro e w10 ⟨rfl, hb10⟩
                          have HQ10 := Lib.hid (HQ9.out.next hb10)
                          have HBL := Lib.hid (blocks_any HQ10.out.disk HQ10.out.log)
                          clear hb10 HSM HQ9
                          go_wp2_with fail
                          refine HBL.out.mono ?_
                          rintro e w11 ⟨nv, rfl, hb11, hr11, ho11⟩
                          have HQ11 := Lib.hid (HQ10.out.next hb11)
                          have HR11 := Lib.hid hr11
                          have HLS := Lib.hid (list_drw HQ11.out.drawer)
                          clear hb11 hr11 ho11 HBL HQ10
                          go_wp2_with fail
                          refine HLS.out.mono ?_
                          rintro e w12 ⟨nv2, rfl, hb12, hr12, ho12⟩
                          have HQ12 := Lib.hid (HQ11.out.next hb12)
                          have HEQ2 := Lib.hid (equal_rows (HR11.out.kept fun k _ hk => hb12.block k hk) hr12 (by rw [List.length_map]; have := HQ11.out.disk.right.few; omega))
                          clear hb12 hr12 ho12 HLS HQ11 HR11
                          go_wp2_with fail
                          refine HEQ2.out.mono ?_
                          rintro e w13 ⟨rfl, hb13⟩
                          have HNXT := Lib.hid (show Lr w D E room size (k + 1) g7 v8 w13 from ⟨_, _, _, _, HQ12.out.next hb13⟩)
                          clear hb13 HEQ2 HQ12
                          go_wp2_with fail
                          exact ⟨⟨k + 1, g7, by omega, by go_num, rfl, HNXT⟩, by simp [intOf]; omega⟩
                        · have b0 : ((kind : Int) == 0) = false := by simpa using k0
                          have b1 : ((kind : Int) == 1) = false := by simpa using k1
                          have b2 : ((kind : Int) == 2) = false := by simpa using k2
                          have b3 : ((kind : Int) == 3) = false := by simpa using k3
                          have HQ9 := Lib.hid (show Lq w _ _ D E g room size A A all u16 (66000 + (k + 1)) wa from { HQA.out with len := Nat.le_trans HQA.out.len (by omega) })
                          clear k0 k1 k2 k3 HQA HEA
                          have HSM := Lib.hid (same_true HQ9.out.disk HQ9.out.drawer)
                          go_wp2_with fail
                          refine HSM.out.mono ?_
                          rintro e w10 ⟨rfl, hb10⟩
                          have HQ10 := Lib.hid (HQ9.out.next hb10)
                          have HBL := Lib.hid (blocks_any HQ10.out.disk HQ10.out.log)
                          clear hb10 HSM HQ9
                          go_wp2_with fail
                          refine HBL.out.mono ?_
                          rintro e w11 ⟨nv, rfl, hb11, hr11, ho11⟩
                          have HQ11 := Lib.hid (HQ10.out.next hb11)
                          have HR11 := Lib.hid hr11
                          have HLS := Lib.hid (list_drw HQ11.out.drawer)
                          clear hb11 hr11 ho11 HBL HQ10
                          go_wp2_with fail
                          refine HLS.out.mono ?_
                          rintro e w12 ⟨nv2, rfl, hb12, hr12, ho12⟩
                          have HQ12 := Lib.hid (HQ11.out.next hb12)
                          have HEQ2 := Lib.hid (equal_rows (HR11.out.kept fun k _ hk => hb12.block k hk) hr12 (by rw [List.length_map]; have := HQ11.out.disk.right.few; omega))
                          clear hb12 hr12 ho12 HLS HQ11 HR11
                          go_wp2_with fail
                          refine HEQ2.out.mono ?_
                          rintro e w13 ⟨rfl, hb13⟩
                          have HNXT := Lib.hid (show Lr w D E room size (k + 1) g u16 w13 from ⟨_, _, _, _, HQ12.out.next hb13⟩)
                          clear hb13 HEQ2 HQ12
                          go_wp2_with fail
                          exact ⟨⟨k + 1, g, by omega, by go_num, rfl, HNXT⟩, by simp [intOf]; omega⟩
                  -- DNUOR
                · have hltz : ¬ (k : Int) < n := by omega
                  obtain ⟨F, Gx, A, all, hq⟩ := HR.out
                  have HB := Lib.hid hq.disk.below
                  clear hq HR
                  go_wp2_with fail
                  go_ret
                  exact ⟨rfl, HB.out⟩
            · have HI := Lib.hid fun w => in_no size 1 4096 w hsz
              have HSZ := Lib.hid hsz
              clear hsz
              go_wp2_with fail
              refine HOP.out.mono ?_
              rintro e w3 (⟨_, rfl, rfl⟩ | ⟨hgood, _⟩)
              · have HB := Lib.hid HPP.out.disk.below
                go_wp2_with fail
                refine (HI.out _).mono ?_
                rintro e w' ⟨rfl, rfl⟩
                go_wp2_with fail
                refine (HI.out _).mono ?_
                rintro e w' ⟨rfl, rfl⟩
                go_wp2_with fail
                go_ret
                exact ⟨rfl, HB.out⟩
              · exact absurd HSZ.out (by omega)
  · have HNW := Lib.hid (new_bad (w := w) room hrm)
    clear hrm
    go_enter Tryz.func5, Tryz.ntmps5
    go_wp2_with fail
    refine HNW.out.mono ?_
    rintro e w' ⟨rfl, rfl⟩
    go_wp2_with fail
    go_ret
    exact ⟨rfl, Below.refl _ _⟩
end
end Go.Proofs.YtbgchhgdlceceaaGreatDoor.Log
