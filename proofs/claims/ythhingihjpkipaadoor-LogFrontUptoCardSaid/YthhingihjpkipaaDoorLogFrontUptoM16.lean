/- Parts of the proof, joined: LogFront, walked.; The frame of a law's row, whatever its parameters: a call that returns true and turns nothing below the heap's old size meets the row's post; and what a reading of an argument tells of the argument's cells. Over any program.; What the cards of this seat share: a world whose tables are laid; the bound of a text; the length's cell.; A slice of records among the parameters, opened. -/
import Derived.Test.YthhingihjpkipaaDoorLogFrontUptoM15
import Derived.Test.YthhingihjpkipaaDoorRows
import Derived.Carry
import Derived.WideKeyArgs
import Derived.SizedLaws
import Derived.OpenShut
import Derived.Test.YthhingihjpkipaaDoorTie
import Derived.Test.YthhingihjpkipaaDoorCards
import Derived.Deep.DeepHandedRow
import Derived.Lib.LaidTab
import Derived.ChangeSlices
namespace Go.Proofs.YthhingihjpkipaaDoor.Log
open Go.RowKit Heap Dsk
open Subj (ML)
open Rec (Rc recErr recA rcOf codedL ml_alloc)
open Sto (recsV recsV_len recsV_append recC RecsAt Fits parts sixC info_rec news_rec recV noteR)

theorem first_log {size : Int} {r : Rc} (h : recErr r = 0) : logD 65536 size [] r = ([⟨0, codedL r, 0⟩], 0) := by
  have hl := codedL_len h
  unfold logD putD
  rw [if_neg (by omega)]
  simp only [List.getLast?_nil]
  unfold appD
  rw [if_neg (by omega), if_neg (by simp only [total]; omega)]
  rfl

theorem rew_nil {size : Int} {s : List UInt8} (h : s.length ≤ 1037) : rewD 65536 size [⟨0, s, 0⟩] [] = ([⟨1, [], 0⟩], 0) := by
  have h2 : appD 65536 [⟨0, s, 0⟩] 1 [] = (insF [⟨0, s, 0⟩] ⟨1, [], 0⟩, 0) := by
    unfold appD
    rw [if_neg (by omega), if_neg (by simp only [total, List.length_nil]; omega)]
    simp [getF]
  unfold rewD
  rw [if_neg (by simp [errL]), if_neg (by simp)]
  simp only [lastD, List.getLast?_singleton, Int.zero_add, show textsL [] = [] from rfl]
  rw [h2]
  simp

theorem grow_not {F : Nat → Prop} {w : World} {G : Nat} (h : ¬ F G) (hl : G < w.heap.size) : ¬ Grow F w G := fun e => by
  rcases e with e | e
  · exact h e
  · omega

/-- A front of records side by side. -/
theorem RecsAt.front {w : World} {ao : Option Addr} {cap : Nat} {l : List Rc} (h : RecsAt w (.slice ao l.length cap) l) (m : Nat) (hm : m ≤ l.length) (cap' : Nat) : RecsAt w (.slice ao m cap') (l.take m) := by
  obtain ⟨ao', c', hv, ha⟩ := h
  simp only [Value.slice.injEq, true_and] at hv
  obtain ⟨rfl, rfl⟩ := hv
  refine ⟨ao, cap', by rw [List.length_take, Nat.min_eq_left hm], fun hne => ?_⟩
  obtain ⟨g, off, e, hc⟩ := ha (fun e => hne (by rw [e]; simp))
  refine ⟨g, off, e, fun i p hp => hc i p ?_⟩
  rw [List.getElem?_take] at hp
  split at hp
  · exact hp
  · cases hp

section
variable {w : World}

/-- What always is so of LogFront's log. -/
def LF (w : World) (D G : Nat) (size : Int) (all : List Rc) (sure : Nat) (v : Value) (wr : World) : Prop :=
  ∃ F A, DiskAt w F D 65536 A wr ∧ LogAt D G size wr ∧ ¬ F G ∧ Inv A all sure ∧ Row wr 29 6 v all.length (recsV all) ∧ (∀ k, own v k → ¬ F k ∧ w.heap.size ≤ k ∧ k ≠ G)

set_option maxHeartbeats 4000000 in
set_option maxRecDepth 100000 in
theorem logFront_walk (hm : ML w) (size : Int) {v : Value} {l : List Rc} (hl : RecsAt w v l) (hf : ∀ r ∈ l, Fits r) (sync keep : Int) :
    Calls Tryd.prog 6 #[.int .i64 size, v, .int .i64 sync, .int .i64 keep] w fun e w' => e = .returned (.bool true) ∧ Below w.heap.size w w' := by
  obtain ⟨n, hnL⟩ : ∃ n, l.length = n := ⟨_, rfl⟩
  have HN := Lib.hid hnL
  obtain ⟨ao, cap, rfl, ha⟩ := hl
  have HL := Lib.hid (show RecsAt w (.slice ao l.length cap) l from ⟨ao, cap, rfl, ha⟩); have HF := Lib.hid hf; have HML := Lib.hid hm
  have HNEW := Lib.hid (new_good (W := w) (w := w) (Below.refl _ _) 65536 (by omega) (by omega))
  rw [hnL]
  clear ha hf hm hnL
  go_enter Tryd.func6, Tryd.ntmps6
  go_wp2_with fail
  refine HNEW.out.mono ?_
  rintro e w1 ⟨rfl, hD1, hb1⟩
  have HD1 := Lib.hid hD1.shrink; have HB1 := Lib.hid hb1
  have HOP := Lib.hid (open_any hD1.shrink HML.out size)
  clear HNEW hD1 hb1
  generalize w.heap.size + 1 = D at *
  go_wp2_with fail
  refine HOP.out.mono ?_
  rintro e w2 (⟨hsz, rfl, rfl⟩ | ⟨hsz, G, v2, rfl, hD2, hG2, hnG, _, _, ht2⟩)
  · clear HOP hsz
    go_wp2_with fail
    go_ret
    exact ⟨rfl, HD1.out.below⟩
  · have hnF2 : ¬ (fun k => w.heap.size ≤ k ∧ k < w1.heap.size) G := by show ¬ (w.heap.size ≤ G ∧ G < w1.heap.size); omega
    have HD2 := Lib.hid hD2; have HG2 := Lib.hid hG2; have HNF2 := Lib.hid hnF2
    have HSZ := Lib.hid (show 1 ≤ size ∧ size ≤ 4096 from by omega)
    clear HOP hD2 hG2 hnG ht2 hsz hnF2 HD1 HB1
    generalize (fun k => w.heap.size ≤ k ∧ k < w1.heap.size) = F2 at *
    go_wp2_with fail
    refine (Sto.note_any 1).mono ?_
    rintro e w3 ⟨rfl, hb3⟩
    have HD3 := Lib.hid (DiskAt.low HD2.out hb3); have HG3 := Lib.hid (HG2.out.below hb3)
    have HE1 := Lib.hid (show recErr (rcOf 1 1 0 ⟨#[97, 46, 98]⟩ ⟨#[]⟩ ⟨#[120]⟩) = 0 from by decide)
    have had := add_log 1 1 0 ⟨#[97, 46, 98]⟩ ⟨#[]⟩ ⟨#[120]⟩ (by decide) (by decide) (by decide) HD3.out HML.out HG3.out HNF2.out HSZ.out
    rw [show (openD []).2 = [] from rfl, first_log HE1.out] at had
    have hcl := (codedL_len HE1.out).2
    generalize codedL (rcOf 1 1 0 ⟨#[97, 46, 98]⟩ ⟨#[]⟩ ⟨#[120]⟩) = S1 at *
    have HAD := Lib.hid had; have HCL := Lib.hid hcl
    clear hb3 had hcl HD2 HG2
    unfold recA at HAD
    unfold recV
    go_wp2_with fail
    refine HAD.out.mono ?_
    rintro e w4 ⟨rfl, hd4, ht4⟩
    have hglt := heap_lt (show w3.heap[G]? = _ from HG3.out)
    have hn4 : ¬ Grow F2 w3 G := grow_not HNF2.out hglt
    have hg4 := HG3.out.touch ht4 HNF2.out
    have HB4 := Lib.hid (blocks_any hd4 hg4)
    have HD4 := Lib.hid hd4; have HG4 := Lib.hid hg4; have HN4 := Lib.hid hn4
    clear hd4 ht4 hglt hn4 hg4 HAD HD3 HG3 HNF2
    generalize Grow F2 w3 = F4 at *
    go_wp2_with fail
    refine HB4.out.mono ?_
    rintro e w5 ⟨nv, rfl, hN⟩
    obtain ⟨a1, n1, hv⟩ := hN.2.1.slice
    obtain rfl : nv = .slice a1 1 n1 := hv
    have hd5 := DiskAt.low HD4.out hN.1
    have hg5 := HG4.out.below hN.1
    have hrw := rew_log (v := .slice none 0 0) (rs := []) (w := w5) ⟨none, 0, rfl, fun h => absurd rfl h⟩ (by simp) (fun r hr => by cases hr) hd5 HML.out hg5 HN4.out HSZ.out
    rw [rew_nil HCL.out] at hrw
    have HRW := Lib.hid hrw; have HG5 := Lib.hid hg5
    clear hN hd5 hg5 hrw HB4 HD4 HG4
    go_wp2_with fail
    refine HRW.out.mono ?_
    rintro e w6 ⟨rfl, hd6, ht6⟩
    have hg6 := HG5.out.touch ht6 HN4.out
    have hn6 : ¬ Grow F4 w5 G := grow_not HN4.out (heap_lt (show w5.heap[G]? = _ from HG5.out))
    have hsy := sync_log hd6 hg6
    rw [show syncL [⟨1, [], 0⟩] = [⟨1, [], 0⟩] from rfl] at hsy
    have HSY := Lib.hid hsy; have HG6 := Lib.hid hg6; have HN6 := Lib.hid hn6
    clear hd6 ht6 hg6 hn6 hsy HRW HG5 HN4
    generalize Grow F4 w5 = F6 at *
    go_wp2_with fail
    refine HSY.out.mono ?_
    rintro e w7 ⟨rfl, hd7, ht7⟩
    have H0 := Lib.hid (show LF w D G size [] 0 (.slice none 0 0) w7 from
      ⟨F6, _, hd7, HG6.out.touch ht7 HN6.out, HN6.out, Inv.start 1, Row.nil _ _ _, fun k hk => by simp [own, Value.ownBlock] at hk⟩)
    have HB7 := Lib.hid hd7.below
    clear hd7 ht7 HSY HG6 HN6
    by_cases h60 : (60 : Int) < n
    · clear H0
      go_wp2_with fail
      go_ret
      exact ⟨rfl, HB7.out⟩
    have hn60 : n ≤ 60 := by omega
    obtain ⟨i0, hi, hz0, hz1, hz2⟩ := info_parts info_rec
    go_wp2_with fail
    go_loopw [14, 15, 65] (fun a s i wr => ∃ (k : Nat) (all : List Rc) (sure : Nat), k ≤ n ∧ all.length ≤ k ∧ i = .int .i64 k ∧ s = .int .i64 sure ∧ Hid (LF w D G size all sure a wr)) (fun _ _ i _ => n - (intOf i).toNat)
    case atStart => exact ⟨0, [], 0, Nat.zero_le _, Nat.le_refl _, rfl, rfl, H0⟩
    case round =>
      obtain ⟨k, all, sure, hk, hak, rfl, rfl, HR⟩ := hrel
      clear H0 HB7
      obtain ⟨F0, A, hD, hG, hnF, hI, hrow, hown⟩ := HR.out
      obtain ⟨va, vc, rfl⟩ := hrow.slice
      by_cases hlt : k < n
      · have hltz : (k : Int) < n := by omega
        obtain ⟨p, hp⟩ : ∃ p, l[k]? = some p := ⟨_, List.getElem?_eq_getElem (by rw [HN.out]; exact hlt)⟩
        have hlr := HL.out.below hD.below (Nat.le_refl _)
        obtain ⟨ao', cap', hv, ha⟩ := hlr
        rw [HN.out] at hv
        simp only [Value.slice.injEq, true_and] at hv
        obtain ⟨rfl, rfl⟩ := hv
        obtain ⟨g, off, rfl, hcs⟩ := ha (fun e => by rw [e] at hp; simp at hp)
        obtain ⟨m0, m1, m2, m3, m4, m5⟩ := hcs k p hp
        have hfp := HF.out p (List.mem_of_getElem? hp)
        obtain ⟨s, h, d, hpp⟩ := parts p
        have hrc := hpp.rc
        have hrv : recsV [p] = [.int .i64 p.kind, .int .i64 p.seq, .int .i64 p.time, .string s, .string h, .string d] := by rw [← hpp.s1, ← hpp.h1, ← hpp.d1]; rfl
        rw [hpp.s1] at m3
        rw [hpp.h1] at m4
        rw [hpp.d1] at m5
        have hss : s.size ≤ 1048576 ∧ h.size ≤ 1048576 ∧ d.size ≤ 1048576 := by
          rw [hpp.s3, hpp.h3, hpp.d3]; have := hfp.1; have := hfp.2; have := hfp.3; omega
        obtain ⟨wa, hwa⟩ : ∃ wa, wa = wr.alloc (.cells #[.int .i64 p.kind, .int .i64 p.seq, .int .i64 p.time, .string s, .string h, .string d] 29) := ⟨_, rfl⟩
        have hba : Below wr.heap.size wr wa := by rw [hwa]; exact (Below.refl _ _).alloc (Nat.le_refl _) _
        have hea : wa.heap[wr.heap.size]? = some (.cells #[.int .i64 p.kind, .int .i64 p.seq, .int .i64 p.time, .string s, .string h, .string d] 29 (0, 0)) := by rw [hwa]; exact heap_alloc_new wr _
        obtain ⟨bx, hbx⟩ : ∃ bx, wr.heap.size = bx := ⟨_, rfl⟩
        obtain ⟨F1, hF1⟩ : ∃ F1 : Nat → Prop, (fun k => F0 k ∧ k < wr.heap.size) = F1 := ⟨_, rfl⟩
        have hnb : ¬ F1 bx := by rw [← hF1, ← hbx]; exact fun e => Nat.lt_irrefl _ e.2
        have hnG : ¬ F1 G := by rw [← hF1]; exact fun e => hnF e.1
        have hown1 : ∀ j, own (.slice va all.length vc) j → ¬ F1 j ∧ (w.heap.size ≤ j ∧ j ≠ G) ∧ j < wr.heap.size := fun j hj => ⟨by rw [← hF1]; exact fun e => (hown j hj).1 e.1, (hown j hj).2, hrow.lt j hj⟩
        have hDa := DiskAt.low hD.shrink hba
        rw [hF1] at hDa
        have hGa := hG.below hba
        have hap := add_log p.kind p.seq p.time s h d hss.1 hss.2.1 hss.2.2 hDa HML.out hGa hnG HSZ.out
        rw [hrc] at hap
        rw [hbx] at hea
        obtain ⟨q0, q1, q2, q3, q4, q5⟩ := sixC hea
        have hadd := hI.add (room := 65536) (size := size) (r := p) hDa.right.sorted
        generalize logD 65536 size A p = o at *
        obtain ⟨A2, er⟩ := o
        simp only at hadd
        have HAP := Lib.hid hap; have HADD := Lib.hid hadd; have HBX := Lib.hid hbx; have HEA := Lib.hid hea; have HNB := Lib.hid hnb; have HNG := Lib.hid hnG; have HOWN := Lib.hid hown1; have HGA := Lib.hid hGa; have HDA := Lib.hid hDa
        have HROW := Lib.hid (hrow.kept (w' := wa) fun j _ hj => hba.block j hj)
        have HWA := Lib.hid hba.size; have HRV := Lib.hid hrv
        unfold recA at HAP
        clear hp ha hcs hfp hpp hrc hrv hss hba hea hbx hF1 hnb hnG hown1 hDa hGa hap hadd hD hG hnF hI hrow hown HR
        go_upto_region 16 with fail
        rw [← hwa, HBX.out]
        clear hwa m0 m1 m2 m3 m4 m5
        go_wp2_with fail
        refine HAP.out.mono ?_
        rintro e w4 ⟨rfl, hd4, ht4⟩
        have hbxl := heap_lt HEA.out
        have he4 : w4.heap[bx]? = _ := (ht4.block bx hbxl HNB.out).trans HEA.out
        have hr4 : Row w4 29 6 (.slice va all.length vc) all.length (recsV all) := HROW.out.kept fun j hj hlt => ht4.block j hlt (HOWN.out j hj).1
        have hg4 := HGA.out.touch ht4 HNG.out
        have hglt := heap_lt (show wa.heap[G]? = _ from HGA.out)
        have hng4 : ¬ Grow F1 wa G := grow_not HNG.out hglt
        have hown4 : ∀ j, own (.slice va all.length vc) j → ¬ Grow F1 wa j ∧ w.heap.size ≤ j ∧ j ≠ G := fun j hj => ⟨grow_not (HOWN.out j hj).1 (by have := (HOWN.out j hj).2.2; have := HWA.out; omega), (HOWN.out j hj).2.1⟩
        obtain ⟨y0, y1, y2, y3, y4, y5⟩ := sixC he4
        have HROW4 := Lib.hid hr4; have HG4 := Lib.hid hg4; have HNG4 := Lib.hid hng4; have HOWN4 := Lib.hid hown4; have HD4 := Lib.hid hd4
        have hws4 : w.heap.size ≤ w4.heap.size := hd4.below.size
        clear hd4 ht4 he4 hr4 hg4 hglt hng4 hown4 HAP HROW HOWN HGA HNG HDA HEA HNB q0 q1 q2 q3 q4 q5
        by_cases her : er = 0
        · subst her
          go_wp2_with (at_builtin; refine Heap.wpList_append_row _ rfl (.tmp 74) (.tmp 76) 22 rfl 29 i0 _ 6 72 Tryd.underlying22 hi hz0 hz1 hz2 rfl (by decide) _ all.length _ rfl (HROW4.out.kept (fun k _ hk => Below.heap_alloc w4 _ _ hk)) ⟨w4.heap.size, 0, none⟩ 1 1 [.int .i64 p.kind, .int .i64 p.seq, .int .i64 p.time, .string s, .string h, .string d] rfl rfl (news_rec w4 _ _ _ _ _ _ _) (by simp [Value.oneCell']) (by unfold maxLen; omega) (by omega) ?_)
          intro v5 w5 r5 t5 o5
          have hal : Below w4.heap.size w4 (w4.alloc (.cells #[.int .i64 p.kind, .int .i64 p.seq, .int .i64 p.time, .string s, .string h, .string d] 29)) := (Below.refl _ _).alloc (Nat.le_refl _) _
          obtain ⟨a5, n5, rfl⟩ := r5.slice
          have HX := Lib.hid (show LF w D G size (all ++ [p]) sure (.slice a5 (all.length + 1) n5) w5 from by
            have t45 : Heap.Touch (own (.slice va all.length vc)) w4 w5 := (Heap.Touch.ofBelow hal).after t5
            refine ⟨fun k => Grow F1 wa k ∧ k < w4.heap.size, A2, ?_, ?_, fun e => HNG4.out e.1, HADD.out.1 trivial, ?_, fun j hj => ?_⟩
            · exact HD4.out.shrink.kept (t45.below hws4 fun j hj => (HOWN4.out j hj).2.1) fun j hj hlt => t45.block j hlt fun e => (HOWN4.out j e).1 hj.1
            · have h4 := HG4.out
              unfold LogAt at h4 ⊢
              rw [t45.block G (heap_lt h4) fun e => (HOWN4.out G e).2.2 rfl]
              exact h4
            · rw [List.length_append, List.length_singleton, recsV_append, HRV.out]
              exact r5
            · rcases o5 j hj with e | e
              · exact ⟨fun x => (HOWN4.out j e).1 x.1, (HOWN4.out j e).2⟩
              · have := hal.size
                have hgl := heap_lt (show w4.heap[G]? = _ from HG4.out)
                exact ⟨fun x => by have := x.2; omega, by omega, by omega⟩)
          clear r5 t5 o5 hal y0 y1 y2 y3 y4 y5
          obtain ⟨F9, A9, h91, h92, h93, h94, h95, h96⟩ := HX.out
          by_cases hb : (bits BinOp.and IntKind.i64 (sync / 2 ^ (k % 60)) 1 == 1) = true
          · have HSY := Lib.hid (sync_log h91 h92)
            have H9 := Lib.hid (And.intro h92 (And.intro h93 (And.intro (h94.sync h91.right.sorted) (And.intro h95 h96))))
            clear h91 h92 h94 h95 h96 h93 HX
            go_wp2_with fail
            refine HSY.out.mono ?_
            rintro e w9 ⟨rfl, hd9, ht9⟩
            have HY := Lib.hid (show LF w D G size (all ++ [p]) ((all ++ [p])).length (.slice a5 (all.length + 1) n5) w9 from by
              obtain ⟨q1, q2, q3, q4, q5⟩ := H9.out
              exact ⟨F9, _, hd9, q1.touch ht9 q2, q2, q3, q4.kept fun j hj hlt => ht9.block j hlt (q5 j hj).1, q5⟩)
            clear hd9 ht9 HSY H9
            obtain ⟨ln, hln⟩ : ∃ ln, ((all ++ [p])).length = ln := ⟨_, rfl⟩
            rw [hln] at HY
            go_wp2_with fail
            exact ⟨⟨k + 1, (all ++ [p]), ln, by omega, by rw [List.length_append, List.length_singleton]; omega, by go_num, by rw [← hln, List.length_append]; rfl, HY⟩, by simp [intOf]; omega⟩
          · have hb2 : (bits BinOp.and IntKind.i64 (sync / 2 ^ (k % 60)) 1 == 1) = false := by simpa using hb
            clear hb h91 h92 h94 h95 h96 h93
            go_wp2_with fail
            exact ⟨⟨k + 1, (all ++ [p]), sure, by omega, by rw [List.length_append, List.length_singleton]; omega, by go_num, rfl, HX⟩, by simp [intOf]; omega⟩
        · have HX := Lib.hid (show LF w D G size all sure (.slice va all.length vc) w4 from
            ⟨Grow F1 wa, A2, HD4.out, HG4.out, HNG4.out, HADD.out.2 her, HROW4.out, HOWN4.out⟩)
          have her0 : ¬ (er : Int) = 0 := by omega
          clear y0 y1 y2 y3 y4 y5
          obtain ⟨F9, A9, h91, h92, h93, h94, h95, h96⟩ := HX.out
          by_cases hb : (bits BinOp.and IntKind.i64 (sync / 2 ^ (k % 60)) 1 == 1) = true
          · have HSY := Lib.hid (sync_log h91 h92)
            have H9 := Lib.hid (And.intro h92 (And.intro h93 (And.intro (h94.sync h91.right.sorted) (And.intro h95 h96))))
            clear h91 h92 h94 h95 h96 h93 HX
            go_wp2_with fail
            refine HSY.out.mono ?_
            rintro e w9 ⟨rfl, hd9, ht9⟩
            have HY := Lib.hid (show LF w D G size all (all).length (.slice va all.length vc) w9 from by
              obtain ⟨q1, q2, q3, q4, q5⟩ := H9.out
              exact ⟨F9, _, hd9, q1.touch ht9 q2, q2, q3, q4.kept fun j hj hlt => ht9.block j hlt (q5 j hj).1, q5⟩)
            clear hd9 ht9 HSY H9
            obtain ⟨ln, hln⟩ : ∃ ln, (all).length = ln := ⟨_, rfl⟩
            rw [hln] at HY
            go_wp2_with fail
            exact ⟨⟨k + 1, all, ln, by omega, by omega, by go_num, rfl, HY⟩, by simp [intOf]; omega⟩
          · have hb2 : (bits BinOp.and IntKind.i64 (sync / 2 ^ (k % 60)) 1 == 1) = false := by simpa using hb
            clear hb h91 h92 h94 h95 h96 h93
            go_wp2_with fail
            exact ⟨⟨k + 1, all, sure, by omega, by omega, by go_num, rfl, HX⟩, by simp [intOf]; omega⟩
      · have hltz : ¬ (k : Int) < n := by omega
        obtain rfl : k = n := by omega
        obtain ⟨K, hK⟩ : ∃ K, keep.toNat = K := ⟨_, rfl⟩
        have hcr := crash_any hD keep
        rw [hK] at hcr
        obtain ⟨m, hm1, hm2, hm3, hm4⟩ := hI.front hD.right.sure K
        obtain ⟨L, hLL⟩ : ∃ L, all.length = L := ⟨_, rfl⟩
        have hvc : L ≤ vc := by
          rcases hrow.2 with ⟨e, e0⟩ | ⟨_, _, _, _, ev, _, h1, _⟩
          · omega
          · simp only [Value.slice.injEq] at ev
            omega
        have hm5 : (all.take m).length = m := by rw [List.length_take]; omega
        have hown2 : ∀ j, own (.slice va all.length vc) j → ¬ F0 j := fun j hj => (hown j hj).1
        generalize crashD A K = AC at *
        have HCR := Lib.hid hcr; have HM3 := Lib.hid hm3; have HM4 := Lib.hid hm4; have HM5 := Lib.hid hm5; have HROW := Lib.hid hrow; have HOWN := Lib.hid hown2; have HLL := Lib.hid hLL; have HB0 := Lib.hid hD.below.size
        have hms : (sure : Int) ≤ (m : Nat) := by omega
        have hml : (m : Int) ≤ (L : Nat) := by omega
        have hmn : m ≤ L := by omega
        have hL60 : L ≤ 60 := by omega
        rw [hLL]
        clear hcr hm1 hm2 hm3 hm4 hm5 hrow hown hown2 hD hG hnF hI HR hLL hK
        go_wp2_with fail
        refine HCR.out.mono ?_
        rintro e w8 ⟨rfl, hd8, ht8⟩
        have HR8 := Lib.hid (HROW.out.kept fun j hj hlt => ht8.block j hlt (HOWN.out j hj))
        have HOP8 := Lib.hid (open_any hd8.shrink HML.out size)
        clear hd8 ht8 HCR HROW
        go_wp2_with fail
        refine HOP8.out.mono ?_
        rintro e w9 (⟨hsz, _, _⟩ | ⟨_, G9, v9, rfl, hd9, _, _, hr9, ho9, ht9⟩)
        · exact absurd HSZ.out (by omega)
        rw [HM3.out, HM5.out] at hr9
        have HR9 := Lib.hid (HR8.out.kept fun j hj hlt => ht9.block j hlt fun e => HOWN.out j hj e.1)
        obtain ⟨a9, c9, rfl⟩ := hr9.slice
        generalize (openD AC).2 = A9 at *
        have HOP9 := Lib.hid (open_any hd9.shrink HML.out size)
        have HV9 := Lib.hid hr9; have HO9 := Lib.hid ho9
        clear hd9 ht9 hr9 ho9 HOP8 HR8
        go_wp2_with fail
        refine HOP9.out.mono ?_
        rintro e w10 (⟨hsz, _, _⟩ | ⟨_, G10, v10, rfl, hd10, _, _, hr10, ho10, ht10⟩)
        · exact absurd HSZ.out (by omega)
        rw [HM4.out, HM5.out] at hr10
        have hra := HR9.out.kept (w' := w10) fun j hj hlt => ht10.block j hlt fun e => HOWN.out j hj e.1.1
        have hr9 := HV9.out.kept (w' := w10) fun j hj hlt => ht10.block j hlt fun e => by have := HO9.out j hj; have := e.1.2; omega
        obtain ⟨a10, c10, rfl⟩ := hr10.slice
        have x9 := Sto.row_recs (l := all.take m) (v := .slice a9 m c9) (by rw [HM5.out]; exact hr9)
        have x10 := Sto.row_recs (l := all.take m) (v := .slice a10 m c10) (by rw [HM5.out]; exact hr10)
        have xa := RecsAt.front (Sto.row_recs hra) m (by rw [HLL.out]; exact hmn)
        have HEQ1 := Lib.hid fun c => Sto.equal_recs x9 (xa c) (by rw [HM5.out]; omega)
        have HEQ2 := Lib.hid fun q => Sto.equal_recs (w := w10.drewN q) (Sto.RecsAt.below x9 (below_drewN (Below.refl _ _) q) (Nat.le_refl _)) (Sto.RecsAt.below x10 (below_drewN (Below.refl _ _) q) (Nat.le_refl _)) (by rw [HM5.out]; omega)
        have HBF := Lib.hid hd10.below
        clear hra hr9 hr10 ho10 ht10 hd10 x9 x10 xa HOP9 HR9 HV9 HO9
        go_wp2_with fail
        refine (HEQ1.out _).mono ?_
        rintro e w11 ⟨rfl, q1, rfl⟩
        go_wp2_with fail
        refine (HEQ2.out q1).mono ?_
        rintro e w12 ⟨rfl, q2, rfl⟩
        go_wp2_with fail
        go_ret
        exact ⟨rfl, below_drewN HBF.out (q1 + q2)⟩
end
end Go.Proofs.YthhingihjpkipaaDoor.Log

namespace Go.Proofs.YthhingihjpkipaaDoor
open Go.RowKit

section
open Go.WideShapes Go.ChangeShapes
variable {H : Type} {enc : TypeId × Value → H} {P : Program}

theorem trodAll_stays (hl : laidOutB P = true) {W W' : World} (hb : Below W.heap.size W W') {sp : Nat → Bool} :
    ∀ (ts : List TypeId) (vs : List Value) (ds : List (DataW H)) (ps : List MemPlace), (∀ t ∈ ts, P.readableRec t = true ∧ t < P.types.size) →
      DataW.TrodAll enc P W 0 (fun _ => true) true ts vs ds ps → (∀ x ∈ ps, x.block < W.heap.size) → (∀ x ∈ ps, sp x.block = true) →
      DataW.TrodAll enc P W' 0 sp true ts vs ds ps
  | [], [], [], _, _, h, _, _ => h
  | t :: ts, v :: vs, d :: ds, ps, hr, h, hlt, hsp => by
    obtain ⟨p, q, h1, h2, rfl⟩ := h
    obtain ⟨r1, r2⟩ := hr t (by simp)
    refine ⟨p, q, WideElems.Trod_stays hl r1 r2 h1 (fun x hx => hb.same (hlt x (by simp [hx]))) (fun x hx => hsp x (by simp [hx])), ?_, rfl⟩
    exact trodAll_stays hl hb ts vs ds q (fun t ht => hr t (by simp [ht])) h2 (fun x hx => hlt x (by simp [hx])) (fun x hx => hsp x (by simp [hx]))
  | [], [], _ :: _, _, _, h, _, _ => by cases h
  | [], _ :: _, _, _, _, h, _, _ => by cases h
  | _ :: _, [], _, _, _, h, _, _ => by cases h
  | _ :: _, _ :: _, [], _, _, h, _, _ => by cases h

/-- The law's post: it returned true, its arguments read as they did. -/
theorem post_true {f : Func} {s : ChangeSpec} {apart fresh handsOn again : Bool} {W W' : World} {args : Array Value} {ds gs : List (DataW H)} {before : List MemPlace} {tb : TypeId}
    (hl : laidOutB P = true) (hr : ∀ t ∈ f.params.toList, P.readableRec t = true ∧ t < P.types.size)
    (hres : f.resultTypes = #[tb]) (htb : P.underlying tb = some .bool) (hvars : s.vars = [])
    (hW : DataW.Whole enc P f.params.toList s.vars apart W args.toList ds gs before)
    (hs1 : (s.fn H (ds ++ gs)).results = [.lit (.bool true)]) (hs2 : (s.fn H (ds ++ gs)).args = ds) (hs3 : (s.fn H (ds ++ gs)).vars = [])
    (hb : Below W.heap.size W W') : s.post enc P f apart fresh handsOn again W args (.bool true) W' := by
  have hW0 := hW
  obtain ⟨p, q, hA, hV, rfl, hz, hn⟩ := hW
  rw [hvars] at hV
  obtain ⟨rfl, rfl⟩ := trodVars_none hV
  have hlt : ∀ x ∈ p, x.block < W.heap.size := fun x hx => hW0.lt x (by simp [hx])
  refine post_of_below (pa := p) (pv := []) hW0 (fun _ _ _ => ?_) (fun sp hsp => ?_) (fun _ _ => ?_) rfl hb ?_
  · rw [hs1, hres]
    exact trodAll_cons_mk (shut_bool htb _) trodAll_mk0
  · rw [hs2]
    exact trodAll_stays hl hb _ _ _ _ hr hA hlt (fun x hx => hsp x (by simp [hx]))
  · rw [hs3, hvars]; rfl
  · intro j t r h1 h2
    rw [hres] at h1 h2
    have hj : j = 0 := by
      have := (Array.getElem?_eq_some_iff.1 h1).1
      simpa using this
    subst hj
    simp at h1
    subst h1
    simp [Value.resultList] at h2
    subst h2
    exact okWide_bool_mk htb _
end

/-! ### What a reading tells -/
section
open Go.WideShapes Go.ChangeShapes
variable {H : Type} {enc : TypeId × Value → H} {P : Program} {w : World} {base : Nat} {spare : Nat → Bool} {held : Bool}

theorem rd_int {t : TypeId} {k : IntKind} {fuel : Nat} {cs : List Value} {y : DataW H × List MemPlace} (ht : P.underlying t = some (.int k)) (h : DataW.trod enc P w base spare held fuel t cs = some y) :
    ∃ n, cs = [.int k n] ∧ (Lit.int k n).wf = true := by
  cases fuel with
  | zero => simp [DataW.trod] at h
  | succ n =>
    unfold DataW.trod at h
    rw [ht] at h
    split at h <;> simp_all

theorem rd_string {t : TypeId} {fuel : Nat} {cs : List Value} {y : DataW H × List MemPlace} (ht : P.underlying t = some .string) (h : DataW.trod enc P w base spare held fuel t cs = some y) :
    ∃ s, cs = [.string s] ∧ s.size ≤ maxLen ∧ y.1 = .lit (.string s.data.toList) := by
  cases fuel with
  | zero => simp [DataW.trod] at h
  | succ n =>
    unfold DataW.trod at h
    rw [ht] at h
    split at h <;> simp_all
    obtain ⟨_, rfl⟩ := h
    simp

theorem rd_bool {t : TypeId} {fuel : Nat} {cs : List Value} {y : DataW H × List MemPlace} (ht : P.underlying t = some .bool) (h : DataW.trod enc P w base spare held fuel t cs = some y) :
    ∃ b, cs = [.bool b] := by
  cases fuel with
  | zero => simp [DataW.trod] at h
  | succ n =>
    unfold DataW.trod at h
    rw [ht] at h
    split at h <;> simp_all

/-- A struct, field by field. -/
theorem rd_struct {t : TypeId} {fs : Array Field} {fuel : Nat} {cs : List Value} {y : DataW H × List MemPlace} (ht : P.underlying t = some (.struct fs)) (h : DataW.trod enc P w base spare held fuel t cs = some y) :
    ∃ n, cs.length = P.cellsOf t ∧ ∃ xs : List (DataW H × List MemPlace), y.1 = .agg (xs.map (·.1)) ∧ fs.toList.mapM (fun f => DataW.trod enc P w base spare held n f.type ((cs.drop f.offset).take (P.cellsOf f.type))) = some xs := by
  cases fuel with
  | zero => simp [DataW.trod] at h
  | succ n =>
    unfold DataW.trod at h
    rw [ht] at h
    split at h <;> simp_all
    obtain ⟨xs, h1, h2⟩ := h.2
    exact ⟨n, xs, by rw [← h2], h1⟩

theorem mapM_get {α β : Type} {f : α → Option β} : ∀ {l : List α} {ys : List β}, l.mapM f = some ys → ys.length = l.length ∧ ∀ (i : Nat) (a : α), l[i]? = some a → ∃ y, ys[i]? = some y ∧ f a = some y
  | [], ys, h => by
    simp at h; subst h; simp
  | a :: l, ys, h => by
    rw [List.mapM_cons] at h
    cases ha : f a with
    | none => rw [ha] at h; cases h
    | some b =>
      rw [ha] at h
      cases hl : l.mapM f with
      | none => rw [hl] at h; cases h
      | some bs =>
        rw [hl] at h
        have e : b :: bs = ys := by simpa using h
        subst e
        obtain ⟨h1, h2⟩ := mapM_get hl
        refine ⟨by simp [h1], fun i x hx => ?_⟩
        cases i with
        | zero => simp at hx; subst hx; exact ⟨b, rfl, ha⟩
        | succ i => exact h2 i x (by simpa using hx)

/-- A slice: nil, or its elements up to the capacity. -/
theorem rd_slice {t e : TypeId} {fuel : Nat} {cs : List Value} {y : DataW H × List MemPlace} (ht : P.underlying t = some (.slice e)) (h : DataW.trod enc P w base (fun _ => true) held fuel t cs = some y) :
    (cs = [.slice none 0 0] ∧ y.1 = .nil) ∨ ∃ a len cap n, cs = [.slice (some a) len cap] ∧ len ≤ cap ∧ cap ≤ maxLen ∧ ∃ elems rest : List (DataW H × List MemPlace), y.1 = .slice (elems.map (·.1)) (rest.map (·.1)) ∧ elems.length = len ∧ rest.length = cap - len ∧
      (∀ i, i < len → ∃ z, elems[i]? = some z ∧ (w.cells? base (a.add (i * P.cellsOf e)) (P.cellsOf e)).bind (DataW.trod enc P w base (fun _ => true) held n e) = some z) ∧
      (∀ i, i < cap - len → ∃ z, rest[i]? = some z ∧ (w.cells? base (a.add ((len + i) * P.cellsOf e)) (P.cellsOf e)).bind (DataW.trod enc P w base (fun _ => true) held n e) = some z) := by
  cases fuel with
  | zero => simp [DataW.trod] at h
  | succ n =>
    unfold DataW.trod at h
    rw [ht] at h
    split at h <;> first | (exfalso; simp_all; done) | simp_all
    · rw [← h]
    · obtain ⟨⟨hb, hlc, hcm⟩, hh⟩ := h
      rw [Option.bind_eq_some_iff] at hh
      obtain ⟨elems, he, hr'⟩ := hh
      rw [Option.map_eq_some_iff] at hr'
      obtain ⟨rest, hr, hy⟩ := hr'
      obtain ⟨l1, g1⟩ := mapM_get he
      obtain ⟨l2, g2⟩ := mapM_get hr
      refine ⟨_, _, _, ⟨rfl, rfl, rfl⟩, hlc, hcm, n, elems, rest, by rw [← hy], by simpa using l1, by simpa using l2, fun i hi => ?_, fun i hi => ?_⟩
      · obtain ⟨y, h1, h2⟩ := g1 i i (by simp [hi])
        exact ⟨y.1, y.2, h1, h2⟩
      · obtain ⟨y, h1, h2⟩ := g2 i i (by simp [hi])
        exact ⟨y.1, y.2, h1, h2⟩
end

end Go.Proofs.YthhingihjpkipaaDoor

namespace Go.Proofs.YthhingihjpkipaaDoor
open Go.ChangeShapes Go.WideShapes Go.ChangeAt Go.RowKit

def laidList : List (String × DataW Unit) := [("unicode/utf8.acceptRanges", Rows.laid_unicode_utf8_acceptRanges), ("unicode/utf8.first", Rows.laid_unicode_utf8_first)]

def acceptZ : List Nat := [128, 191, 160, 191, 128, 159, 144, 191, 128, 143] ++ List.replicate 22 0

/-- A world for the witness: the settled one, the tables holding what their initialisers lay. -/
noncomputable def laidWorld (os : Os) : World :=
  { World.holding Tryd.prog os ⟨#[], #[], []⟩ with heap := (((World.holding Tryd.prog os ⟨#[], #[], []⟩).heap.modify 1 (fun
      | .cells _ t frozen => .cells (Go.Pinned.utf8FirstZ.map fun (z : Nat) => Value.int .u8 z).toArray t frozen
      | o => o)).modify 2 (fun
      | .cells _ t frozen => .cells (acceptZ.map fun (z : Nat) => Value.int .u8 z).toArray t frozen
      | o => o)) }

set_option maxRecDepth 100000 in
theorem laid_met (os : Os) (args : Array Value) : laidMet Tryd.prog laidList ((laidWorld os).forCall (fun _ _ => 0) ⟨#[], args, []⟩).memory :=
  laidMet_of_run' 8 (by kernel_rfl) (by kernel_rfl)

theorem ml_shaped {W : World} (h : W.ShapedOpen Tryd.prog) : Subj.ML W := Tryd.laysM146.s1_3 W h

/-- A part's bulk is at most the whole's. -/
theorem bulk_part {H : Type} {d : DataW H} : ∀ {l : List (DataW H)}, d ∈ l → Rows.uptoBulk d ≤ Rows.uptoBulkAll l
  | [], h => by cases h
  | x :: r, h => by
    simp only [Rows.uptoBulkAll]
    cases List.mem_cons.1 h with
    | inl e => subst e; omega
    | inr e => have := bulk_part e; omega

theorem bulk_bound {H : Type} {l : List (DataW H)} (hk : Rows.uptoSmall H l = true) : Rows.uptoBulkAll l ≤ 1048576 := of_decide_eq_true hk

/-- A text that is a part of what came in: at most so long. -/
theorem text_bound {H : Type} {l : List (DataW H)} {s : ByteArray} (hk : Rows.uptoSmall H l = true) (h : DataW.lit (.string s.data.toList) ∈ l) : s.size ≤ 1048576 := by
  have h1 := bulk_bound hk
  have h2 := bulk_part h
  have h3 : Rows.uptoBulk (DataW.lit (H := H) (.string s.data.toList)) = s.size + 1 := by simp only [Rows.uptoBulk, Array.length_toList]; rfl
  omega

end Go.Proofs.YthhingihjpkipaaDoor

namespace Go.Proofs.YthhingihjpkipaaDoor.Sto
open Go.RowKit
open Rec (Rc)

theorem cells_recO : Tryd.prog.cellsOf 29 = 6 := by kernel_rfl
theorem cells_intO : Tryd.prog.cellsOf 3 = 1 := by kernel_rfl
theorem cells_strO : Tryd.prog.cellsOf 9 = 1 := by kernel_rfl

theorem addr_flatO {w : World} {a : Addr} {v : Value} (h : w.cell? a = some v) : a = ⟨a.block, a.off, none⟩ := by
  cases a with
  | mk b o s =>
    cases s with
    | none => rfl
    | some s =>
      unfold World.cell? at h
      simp only at h
      split at h <;> simp at h

/-- Cells side by side, one by one. -/
theorem cells_atO {w : World} {base : Nat} {a : Addr} {n : Nat} {cs : List Value} (h : w.cells? base a n = some cs) : cs.length = n ∧ ∀ i, i < n → w.cell? (a.add i) = cs[i]? := by
  unfold World.cells? at h
  split at h
  · obtain ⟨h1, h2⟩ := mapM_get h
    refine ⟨by simpa using h1, fun i hi => ?_⟩
    obtain ⟨y, h3, h4⟩ := h2 i i (by simp [hi])
    rw [h3]
    exact h4
  · cases h

theorem bulk_textO {H : Type} (s : ByteArray) : Rows.uptoBulk (DataW.lit (H := H) (.string s.data.toList)) = s.size + 1 := by
  simp only [Rows.uptoBulk, Array.length_toList]; rfl

theorem list6O {α : Type} {l : List α} (h : l.length = 6) : ∃ a b c d e f, l = [a, b, c, d, e, f] := by
  match l, h with
  | [a, b, c, d, e, f], _ => exact ⟨a, b, c, d, e, f, rfl⟩

theorem str_back (s : ByteArray) : (⟨s.data.toList.toArray⟩ : ByteArray) = s := by cases s; simp

set_option maxRecDepth 100000 in
open Go.WideShapes Go.ChangeShapes in
/-- One record among what was read. -/
theorem open_rec {H : Type} {enc : TypeId × Value → H} {W : World} {base fuel : Nat} {held : Bool} {cs : List Value} {y : DataW H × List MemPlace}
    (h : DataW.trod enc Tryd.prog W base (fun _ => true) held fuel 29 cs = some y) (hk : Rows.uptoBulk y.1 ≤ 1048576) :
    ∃ p : Rc, cs = recC p ∧ Fits p := by
  obtain ⟨n, hlen, xs, hd, hm⟩ := rd_struct Tryd.underlying29 h
  obtain ⟨hl, hg⟩ := mapM_get hm
  rw [cells_recO] at hlen
  obtain ⟨c0, c1, c2, c3, c4, c5, rfl⟩ := list6O hlen
  obtain ⟨z0, w0, q0⟩ := hg 0 _ rfl
  obtain ⟨z1, w1, q1⟩ := hg 1 _ rfl
  obtain ⟨z2, w2, q2⟩ := hg 2 _ rfl
  obtain ⟨z3, w3, q3⟩ := hg 3 _ rfl
  obtain ⟨z4, w4, q4⟩ := hg 4 _ rfl
  obtain ⟨z5, w5, q5⟩ := hg 5 _ rfl
  clear hg hm
  simp only [cells_intO, cells_strO] at q0 q1 q2 q3 q4 q5
  obtain ⟨a0, e0, _⟩ := rd_int Tryd.underlying3 q0
  obtain ⟨a1, e1, _⟩ := rd_int Tryd.underlying3 q1
  obtain ⟨a2, e2, _⟩ := rd_int Tryd.underlying3 q2
  obtain ⟨a3, e3, _, f3⟩ := rd_string Tryd.underlying9 q3
  obtain ⟨a4, e4, _, f4⟩ := rd_string Tryd.underlying9 q4
  obtain ⟨a5, e5, _, f5⟩ := rd_string Tryd.underlying9 q5
  simp at e0 e1 e2 e3 e4 e5
  subst e0 e1 e2 e3 e4 e5
  rw [hd] at hk
  simp only [Rows.uptoBulk] at hk
  have hb : ∀ z ∈ xs, Rows.uptoBulk z.1 ≤ 1048576 := fun z hz => by
    have := bulk_part (d := z.1) (l := xs.map (·.1)) (List.mem_map.2 ⟨z, hz, rfl⟩)
    omega
  have b3 := hb _ (List.mem_of_getElem? w3)
  have b4 := hb _ (List.mem_of_getElem? w4)
  have b5 := hb _ (List.mem_of_getElem? w5)
  rw [f3, bulk_textO] at b3
  rw [f4, bulk_textO] at b4
  rw [f5, bulk_textO] at b5
  refine ⟨⟨a0, a1, a2, a3.data.toList, a4.data.toList, a5.data.toList⟩, by simp only [recC, str_back], ?_, ?_, ?_⟩
  · show a3.data.toList.length ≤ _
    rw [show a3.data.toList.length = a3.size by simp]; omega
  · show a4.data.toList.length ≤ _
    rw [show a4.data.toList.length = a4.size by simp]; omega
  · show a5.data.toList.length ≤ _
    rw [show a5.data.toList.length = a5.size by simp]; omega

set_option maxRecDepth 100000 in
open Go.WideShapes Go.ChangeShapes in
theorem open_recs {H : Type} {enc : TypeId × Value → H} {W : World} {fuel : Nat} {held : Bool} {cs : List Value} {y : DataW H × List MemPlace}
    (h : DataW.trod enc Tryd.prog W 0 (fun _ => true) held fuel 22 cs = some y) (hk : Rows.uptoBulk y.1 ≤ 1048576) :
    ∃ ao n cap l, cs = [.slice ao n cap] ∧ RecsAt W (.slice ao n cap) l ∧ ∀ r ∈ l, Fits r := by
  rcases rd_slice Tryd.underlying22 h with ⟨e0, ey⟩ | ⟨a, n, cap, m, e0, hlc, hcm, elems, rest, ey, hel, _, he, _⟩
  · exact ⟨none, 0, 0, [], e0, ⟨none, 0, rfl, fun h => absurd rfl h⟩, (fun _ h => by cases h)⟩
  · rw [cells_recO] at he
    have hall : ∀ d ∈ elems.map (·.1), Rows.uptoBulk d ≤ 1048576 := by
      intro d hd
      rw [ey] at hk
      have := bulk_part hd
      simp only [Rows.uptoBulk] at hk; omega
    have hcell : ∀ i, i < n → ∃ p : Rc, (∀ j, j < 6 → W.cell? ((a.add (i * 6)).add j) = (recC p)[j]?) ∧ Fits p := by
      intro i hi
      obtain ⟨z, hz, h2⟩ := he i hi
      rw [Option.bind_eq_some_iff] at h2
      obtain ⟨cs, h3, h4⟩ := h2
      obtain ⟨_, h6⟩ := cells_atO h3
      obtain ⟨p, rfl, r1⟩ := open_rec h4 (hall _ (List.mem_map.2 ⟨z, List.mem_of_getElem? hz, rfl⟩))
      exact ⟨p, h6, r1⟩
    refine ⟨some a, n, cap, (List.range n).map (fun i => if h : i < n then (hcell i h).choose else ⟨0, 0, 0, [], [], []⟩), e0, ⟨some a, cap, by simp, fun hne => ?_⟩, fun r hr => ?_⟩
    · have hnp : 0 < n := by
        rcases Nat.eq_zero_or_pos n with e | e
        · exact absurd (by simp [e]) hne
        · exact e
      have ha : a = ⟨a.block, a.off, none⟩ := by
        obtain ⟨p, hs, _⟩ := hcell 0 hnp
        have h0 := hs 0 (by omega)
        have h1 : (a.add (0 * 6)).add 0 = a := by rw [Nat.zero_mul]; rfl
        rw [h1] at h0
        exact addr_flatO h0
      refine ⟨a.block, a.off, by rw [← ha], fun i p hp => ?_⟩
      have hi : i < n := by
        have := (List.getElem?_eq_some_iff.1 hp).1
        simpa using this
      have hpp : (hcell i hi).choose = p := by
        simp [hi] at hp
        exact hp
      have h1 := (hcell i hi).choose_spec.1
      rw [hpp] at h1
      have h2 : ∀ j, j < 6 → W.cell? ⟨a.block, a.off + i * 6 + j, none⟩ = (recC p)[j]? := fun j hj => by
        have := h1 j hj
        rw [ha] at this
        simpa only [Addr.add_lit] using this
      exact ⟨h2 0 (by omega), h2 1 (by omega), h2 2 (by omega), h2 3 (by omega), h2 4 (by omega), h2 5 (by omega)⟩
    · obtain ⟨i, hi, rfl⟩ := List.mem_map.1 hr
      have hi' : i < n := by simpa using hi
      rw [dif_pos hi']
      exact (hcell i hi').choose_spec.2
end Go.Proofs.YthhingihjpkipaaDoor.Sto
