/- rillref.ReadPlan, walked. -/
import Derived.Test.YtglgbidcmkncgaaDoorPlanParse
import Derived.Test.YtglgbidcmkncgaaDoorPlanRead
namespace Go.Proofs.YtglgbidcmkncgaaDoor.Subj
open Go.RowKit

/-- The words lie as they are laid. -/
def WordsLaid (w : World) : Prop := ∀ k, k < 8 → w.cell? ⟨0, k, none⟩ = some (.string (wordAt k))

theorem WordsLaid.inv {w0 w : World} (h : WordsLaid w0) (hI : Inv w0 w) : WordsLaid w := fun k hk => (hI.2.cell (World.block_lt_of_cell? w0 _ (h k hk))).trans (h k hk)

/-- Block G holds the addresses of the numbers of the plan in block P. -/
def ToAt (P G : Nat) (w : World) : Prop := ∀ k, k < 8 → w.cell? ⟨G, k, none⟩ = some (.pointer (some ⟨P, 2 + k, none⟩))

def toCells (P : Nat) : Array Value := #[.pointer (some ⟨P, 2, none⟩), .pointer (some ⟨P, 3, none⟩), .pointer (some ⟨P, 4, none⟩), .pointer (some ⟨P, 5, none⟩), .pointer (some ⟨P, 6, none⟩), .pointer (some ⟨P, 7, none⟩), .pointer (some ⟨P, 8, none⟩), .pointer (some ⟨P, 9, none⟩)]

theorem toAt_made (P : Nat) (w : World) (t : TypeId) : ToAt P w.heap.size (w.alloc (.cells (toCells P) t)) := by
  intro k hk
  rw [World.cell?_alloc_at _ _ _ _ rfl]
  rcases k with _ | _ | _ | _ | _ | _ | _ | _ | k
  all_goals first | rfl | omega

theorem ToAt.below {P G : Nat} {w w' : World} (h : ToAt P G w) (hb : Below w.heap.size w w') : ToAt P G w' := fun k hk =>
  (hb.cell (World.block_lt_of_cell? w _ (h k hk))).trans (h k hk)

theorem ToAt.set {P G : Nat} {w : World} (h : ToAt P G w) (hne : G ≠ P) (j : Nat) (u : Value) : ToAt P G (w.setCell ⟨P, j, none⟩ u) := fun k hk => by
  have ht : Heap.Touch (· = P) w (w.setCell ⟨P, j, none⟩ u) := (Heap.Touch.refl (· = P) w).setCell (.inl rfl) _
  exact (ht.cell (World.block_lt_of_cell? w _ (h k hk)) hne).trans (h k hk)

def PcsPost (w : World) (l : List Tok) (e : Ending) (w' : World) : Prop :=
  ∃ g cap, e = .returned (.slice (some ⟨g, 0, none⟩) l.length cap) ∧ l.length ≤ cap ∧ StrsAt w' g 0 l ∧ w.heap.size ≤ g ∧ g < w'.heap.size ∧ Below w.heap.size w w'

theorem pcs_any (c : UInt8) (s : ByteArray) (w : World) (hs : s.size ≤ 1048576) :
    Calls Tryd.prog 59 #[.string s, .int .u8 c.toNat] w (PcsPost w (piecesC c s.data.toList)) := by
  refine (piecesC_any c s w hs).mono ?_
  rintro e w' ⟨v, rfl, hown, hb⟩
  have hpos : 0 < (piecesC c s.data.toList).length := List.length_pos_iff.2 (piecesC_ne c _)
  obtain ⟨m, hm⟩ : ∃ m, (piecesC c s.data.toList).length = m + 1 := ⟨_, (Nat.sub_add_cancel hpos).symm⟩
  have hS := Strs.own hown
  rw [hm] at hown
  obtain ⟨g, cap, rfl⟩ := ownsRow_succ hown
  obtain ⟨ao, cap', e', hc, hat⟩ := hS
  simp only [Value.slice.injEq] at e'
  obtain ⟨rfl, _, rfl⟩ := e'
  obtain ⟨g', off', e2, hst⟩ := hat (piecesC_ne c _)
  simp only [Option.some.injEq, Addr.mk.injEq] at e2
  obtain ⟨rfl, rfl, _⟩ := e2
  exact ⟨_, _, by rw [hm], hc, hst, (hown.lt _ rfl).1, (hown.lt _ rfl).2, hb⟩

/-- A word told, or not. -/
theorem fcut_yes (t p : ByteArray) (w : World) (ht : t.size ≤ maxLen) (h : (p.data.toList ++ [61]).isPrefixOf t.data.toList = true) :
    Calls Tryd.prog 60 #[.string t, .string (p ++ ⟨#[61]⟩)] w fun e w' => e = .returned (.tuple #[.string ⟨(t.data.toList.drop (p.data.toList.length + 1)).toArray⟩, .bool true]) ∧ w' = w := by
  have hb : ((p ++ ⟨#[61]⟩ : ByteArray).data.toList) = p.data.toList ++ [61] := by simp
  have := front_yes t (p ++ ⟨#[61]⟩) w ht (by rw [hb]; exact h)
  rw [hb] at this
  simpa only [List.length_append, List.length_cons, List.length_nil] using this

set_option maxRecDepth 100000 in
theorem fcut_no (t p : ByteArray) (w : World) (ht : t.size ≤ maxLen) (h : (p.data.toList ++ [61]).isPrefixOf t.data.toList = false) :
    Calls Tryd.prog 60 #[.string t, .string (p ++ ⟨#[61]⟩)] w fun e w' => e = .returned (.tuple #[.string ⟨#[]⟩, .bool false]) ∧ w' = w := by
  have hb : ((p ++ ⟨#[61]⟩ : ByteArray).data.toList) = p.data.toList ++ [61] := by simp
  have h2 : (p ++ ⟨#[61]⟩ : ByteArray).data.toList.isPrefixOf t.data.toList = false := by rw [hb]; exact h
  clear h hb
  generalize (p ++ ⟨#[61]⟩ : ByteArray) = q at *
  exact front_no t q w ht h2

def RIn (W : World) (R P G g : Nat) (name : ByteArray) (v : Value) (fs r : List Tok) (E : Option (List Int)) (j0 c : Nat) (s7 s9 s10 : Value) (w : World) : Prop :=
  ∃ (i : Nat) (vals : List Int), i ≤ 8 ∧ s10 = .int .i64 i ∧ PW W R P g name v fs r vals w ∧ ToAt P G w ∧
    ((s9 = .bool false ∧ s7 = .int .i64 j0 ∧ PState E r i c vals) ∨ (s9 = .bool true ∧ s7 = .int .i64 i ∧ PState E r i (c + 1) vals))

def ROut (W : World) (R P G g : Nat) (name : ByteArray) (v : Value) (fs r : List Tok) (E : Option (List Int)) (s7 s8 : Value) (w : World) : Prop :=
  ∃ (j c : Nat) (vals : List Int), j ≤ 8 ∧ c ≤ r.length ∧ s7 = .int .i64 j ∧ s8 = .int .i64 (2 + c : Nat) ∧ PState E r j c vals ∧ PW W R P g name v fs r vals w ∧ ToAt P G w

set_option maxHeartbeats 4000000 in
set_option maxRecDepth 100000 in
theorem readPlan_words (s : ByteArray) (w : World) (hs : s.size ≤ 1024) (hm : ML w) (hwl : WordsLaid w) (n f : Tok) (r : List Tok) (hp : piecesC 32 s.data.toList = n :: f :: r) :
    Calls Tryd.prog 18 #[.string s] w (ParsePost w (ansP n (piecesC 44 f) (Ends words [] r))) := by
  have hsplit := pcs_any 32 s (w.alloc (.cells zeroArr 29)) (by omega)
  rw [hp] at hsplit
  have hfl : f.length ≤ 1024 := by
    have := piecesC_mem 32 (s := s.data.toList) (t := f) (by rw [hp]; simp)
    simp at this; omega
  have hnl : n.length ≤ 1024 := by
    have := piecesC_mem 32 (s := s.data.toList) (t := n) (by rw [hp]; simp)
    simp at this; omega
  have hr1024 : ∀ t ∈ r, t.length ≤ 1024 := fun t ht => by
    have := piecesC_mem 32 (s := s.data.toList) (t := t) (by rw [hp]; simp [ht])
    simp at this; omega
  have hrl : r.length ≤ 1024 := by
    have := piecesC_size 32 s
    rw [hp] at this
    simp at this; omega
  have hfilt : ∀ w, Calls Tryd.prog 59 #[.string ⟨f.toArray⟩, .int .u8 44] w (PcsPost w (piecesC 44 f)) := fun w => pcs_any 44 ⟨f.toArray⟩ w (by show f.toArray.size ≤ _; simp; omega)
  unfold PcsPost at hsplit
  simp only [List.length_cons] at hsplit
  have hlen : (0 : Int) ≤ (r.length : Int) := by omega
  have hlen0 : (0 : Int) < (r.length : Int) + 1 + 1 := by omega
  have hlen1 : (1 : Int) < (r.length : Int) + 1 + 1 := by omega
  obtain ⟨ans, hans⟩ : ∃ ans, ansP n (piecesC 44 f) (Ends words [] r) = ans := ⟨_, rfl⟩
  rw [hans]
  have HA := Lib.hid hans
  clear hans
  have HS := Lib.hid hsplit; have HF := Lib.hid hfilt; have HP := Lib.hid hp; have HM := Lib.hid hm; have HWL := Lib.hid hwl
  clear hsplit hfilt hp hm hwl
  skip
  skip
  go_enter Tryd.func18, Tryd.ntmps18
  go_wp2_with fail
  refine HS.out.mono ?_
  rintro e w1 ⟨g, cap, rfl, hcap, hst, hgn, hgl, hb⟩
  have hg0 := hst 0 (by simp)
  have hg1 := hst 1 (by simp)
  have hI1 : Inv w w1 := Inv.step (Inv.made HM.out _) hb
  have hz1 : w1.heap[w.heap.size]? = some (.cells zeroArr 29 (0, 0)) := (hb.block _ (by simp)).trans (heap_alloc_new w _)
  have hgR : w.heap.size < g := by simp at hgn; omega
  have HST := Lib.hid hst; have HI1 := Lib.hid hI1; have HZ := Lib.hid hz1
  clear hst hI1 hz1 hb hgn
  simp [strAt] at hg0 hg1
  go_upto_region 6 with fail
  go_cut [5] (fun s5 wx => ∃ P v, s5 = .pointer (some ⟨P, 0, none⟩) ∧ PW w w.heap.size P g ⟨n.toArray⟩ v (piecesC 44 f) r (List.replicate 8 0) wx)
  case first =>
    have hne1 : g ≠ w1.heap.size := by omega
    have hne2 : w1.heap.size ≠ g := by omega
    have HF1 := Lib.hid (HF.out w1.drew)
    have HF2 := Lib.hid (HF.out (w1.alloc (.cells #[.string ⟨#[]⟩, .slice none 0 0, .int .i64 0, .int .i64 0, .int .i64 0, .int .i64 0, .int .i64 0, .int .i64 0, .int .i64 0, .int .i64 0] 29)).drew)
    clear HF
    go_region_held3 (fun w' => w'.cell? ⟨g, 0, none⟩ = some (.string ⟨n.toArray⟩) ∧ w'.cell? ⟨g, 1, none⟩ = some (.string ⟨f.toArray⟩)) (first | (with_reducible exact ⟨k0, k1⟩) | go_keep | (constructor <;> (simp [go_sem, *]; done)))
      (first
        | (go_at_call 59; ((with_reducible refine HF1.out.mono ?_); rintro e w' ⟨g2, cap2, rfl, hc2, h1, hn2, hl2, h2⟩; have hB : Below w1.heap.size w1 w' := ((Below.refl w1.heap.size w1).drew).trans h2; have k0 := (hB.cell (p := ⟨g, 0, none⟩) hgl).trans hg0; have k1 := (hB.cell (p := ⟨g, 1, none⟩) hgl).trans hg1; have HB := Lib.hid hB; have HN2 := Lib.hid hn2; have HL2 := Lib.hid hl2; clear hB hn2 hl2))
        | (go_at_call 59; ((with_reducible refine HF2.out.mono ?_); rintro e w' ⟨g2, cap2, rfl, hc2, h1, hn2, hl2, h2⟩; have hB : Below w1.heap.size w1 w' := Below.trans (by go_grown) (h2.mono (by go_size)); have k0 := (hB.cell (p := ⟨g, 0, none⟩) hgl).trans hg0; have k1 := (hB.cell (p := ⟨g, 1, none⟩) hgl).trans hg1; have HB := Lib.hid hB; have HN2 := Lib.hid hn2; have HL2 := Lib.hid hl2; clear hB hn2 hl2; have hz : w'.heap[w1.heap.size]? = some (.cells #[.string ⟨#[]⟩, .slice none 0 0, .int .i64 0, .int .i64 0, .int .i64 0, .int .i64 0, .int .i64 0, .int .i64 0, .int .i64 0, .int .i64 0] 29 (0, 0)) := (h2.block _ (by go_size)).trans (heap_alloc_new w1 _); obtain ⟨z0, z1, z2, z3, z4, z5, z6, z7, z8, z9, zf⟩ := ten hz; have HZN := Lib.hid hz; clear hz)))
    all_goals go_wp2_with fail
    all_goals go_meet
    · refine ⟨w'.heap.size, .slice (some ⟨g2, 0, none⟩) (piecesC 44 f).length cap2, rfl, ?_⟩
      refine PW.madeA' (w1 := w1) (w' := w') HI1.out HZ.out HST.out HB.out ⟨_, _, rfl, hc2, fun _ => ⟨_, _, rfl, h1⟩⟩ ?_
      intro k hk; simp [Heap.own, Value.ownBlock] at hk; have q1 : w1.heap.size ≤ g2 := HN2.out; have q2 := HL2.out; have := HI1.out.2.size; omega
    · refine ⟨w1.heap.size, .slice (some ⟨g2, 0, none⟩) (piecesC 44 f).length cap2, rfl, ?_⟩
      refine PW.madeB' (w1 := w1) (w' := w') HI1.out HZ.out HST.out HB.out HZN.out ⟨_, _, rfl, hc2, fun _ => ⟨_, _, rfl, h1⟩⟩ ?_
      intro k hk; simp [Heap.own, Value.ownBlock] at hk; have q1 : (w1.alloc _).heap.size ≤ g2 := HN2.out; simp at q1; omega
  case rest =>
    obtain ⟨P, v, rfl, hpw⟩ := hcut
    have HPW := Lib.hid hpw
    clear hpw hg0 hg1 HS HF HST HI1 HZ
    have HPG := Lib.hid (Heap.heap_lt HPW.out.plan)
    go_wp2_with fail
    have hTo : ToAt P wc.heap.size (wc.alloc (.cells (toCells P) 91)) := toAt_made P wc _
    have hPW2 := HPW.out.below ((Below.refl _ wc).alloc (Nat.le_refl _) (.cells (toCells P) 91))
    have HTO := Lib.hid hTo; have HPW2 := Lib.hid hPW2
    clear hTo hPW2 HPW
    unfold toCells at HTO HPW2
    have HST := Lib.hid (PState.start r)
    generalize wc.heap.size = G at *
    go_loopw [7, 8, 9, 10, 11, 12] (fun s7 s8 _ _ _ _ wr => ROut w w.heap.size P G g ⟨n.toArray⟩ v (piecesC 44 f) r (Ends words [] r) s7 s8 wr) (fun _ i _ _ _ _ _ => r.length + 2 - (intOf i).toNat)
    case atStart => exact ⟨0, 0, _, by omega, by omega, rfl, rfl, HST.out, HPW2.out, HTO.out⟩
    case round =>
      obtain ⟨j, c, vals, hj, hc, rfl, rfl, hps, hpw, hto⟩ := hrel
      have hcz : (2 : Int) + (c : Int) ≤ 2000 := by omega
      by_cases hlt : c < r.length
      · have hltz : ((2 + c : Nat) : Int) < (r.length : Int) + 1 + 1 := by omega
        have HPW := Lib.hid hpw; have HTO := Lib.hid hto; have HPS := Lib.hid hps
        clear hpw hto hps
        go_wp2_with fail
        have hTl := hr1024 (r.getD c []) (by simp [List.getD, hlt])
        go_loopw [7, 9, 10, 11, 12] (fun s7 s9 s10 _ _ wr => RIn w w.heap.size P G g ⟨n.toArray⟩ v (piecesC 44 f) r (Ends words [] r) j c s7 s9 s10 wr) (fun _ _ i _ _ _ => 8 - (intOf i).toNat)
        case atStart => exact ⟨j, vals, hj, rfl, HPW.out, HTO.out, .inl ⟨rfl, rfl, HPS.out⟩⟩
        case round =>
          clear HPW HTO HPS
          obtain ⟨i, vals, hi, rfl, hpw, hto, hcase⟩ := hrel
          rcases hcase with ⟨rfl, rfl, hps⟩ | ⟨rfl, rfl, hps⟩
          · by_cases hi8 : i < 8
            · have hi8z : (i : Int) < 8 := by omega
              have hT1024 : (strAt r c).data.toList.length ≤ 1024 := hTl
              have hcell := hpw.rest c hlt
              have hto1 := hto i hi8
              have hwd1 := HWL.out.inv hpw.inv i hi8
              have hTs : (strAt r c).size ≤ 1024 := by show (List.toArray _).size ≤ _; simpa using hTl
              have hTm : (strAt r c).size ≤ maxLen := by
                have hm : (1024 : Nat) ≤ maxLen := by unfold maxLen; decide
                omega
              cases hpre : (words.getD i [] ++ [61]).isPrefixOf (r.getD c []) with
              | false =>
                have HC := Lib.hid fun w => fcut_no (strAt r c) (wordAt i) w hTm hpre
                have HN := Lib.hid (hps.skip hi8 hlt hpre)
                have HPW := Lib.hid hpw; have HTO := Lib.hid hto
                have hwd := wordAt_size i
                clear hps hpw hto hpre hTm hT1024
                generalize strAt r c = T at *
                generalize wordAt i = wd at *
                go_wp2_with fail
                go_quiet ((go_at_call 60; exact Calls.quiet_of_same (HC.out _)))
                go_wp2_with fail
                exact ⟨⟨i + 1, vals, by omega, by go_num, HPW.out.below (below_drewN (Below.refl _ _) _), HTO.out.below (below_drewN (Below.refl _ _) _), .inl ⟨rfl, rfl, HN.out⟩⟩, by simp [intOf]; omega⟩
              | true =>
                have HC := Lib.hid fun w => fcut_yes (strAt r c) (wordAt i) w hTm hpre
                have HY := Lib.hid fun hn => hps.take hi8 hlt hpre hn
                have HX := Lib.hid fun hn => hps.bad hi8 hlt hpre hn
                have hnum := fun w => digits_any ⟨((strAt r c).data.toList.drop ((wordAt i).data.toList.length + 1)).toArray⟩ w (by
                  show (List.toArray _).size ≤ _
                  rw [List.size_toArray, List.length_drop]
                  have hm : (1024 : Nat) ≤ maxLen := by unfold maxLen; decide
                  omega)
                have hnum' : ∀ w, Calls Tryd.prog 61 #[.string ⟨((strAt r c).data.toList.drop ((wordAt i).data.toList.length + 1)).toArray⟩] w fun e w' => e = .returned (.int .i64 (numberOf ((r.getD c []).drop ((words.getD i []).length + 1)))) ∧ w' = w := fun w => (hnum w).mono fun _ _ ⟨a, b⟩ => ⟨a, b.symm⟩
                generalize numberOf ((r.getD c []).drop ((words.getD i []).length + 1)) = x at *
                have HNUM := Lib.hid hnum'
                clear hnum'
                clear hnum
                have hval := hpw.val i hi8
                have HLEN := Lib.hid hpw.len
                have HPW := Lib.hid hpw; have HTO := Lib.hid hto
                have hwd := wordAt_size i
                clear hps hpw hto hpre hTm hT1024
                generalize strAt r c = T at *
                generalize wordAt i = wd at *
                obtain ⟨hv1, hv2⟩ := hval
                have hPG : P < G := HPG.out
                go_wp2_with fail
                go_quiet ((go_at_call 60; exact Calls.quiet_of_same (HC.out _)))
                go_upto_region 20 with fail
                go_cut [] (fun wx => ∃ kd, wx = (wr.drewN kd).setCell ⟨P, 2 + i, none⟩ (.int .i64 x))
                case first =>
                  go_region_with (go_at_call 61; refine (HNUM.out _).mono ?_; rintro e w' ⟨rfl, rfl⟩)
                  all_goals
                    go_wp2_with fail
                    go_meet
                    exact ⟨_, rfl⟩
                case rest =>
                  obtain ⟨kd, hcut⟩ := hcut
                  rw [hcut]
                  clear hcut
                  obtain ⟨W4, hW4⟩ : ∃ W4, W4 = (wr.drewN kd).setCell ⟨P, 2 + i, none⟩ (.int .i64 x) := ⟨_, rfl⟩
                  rw [← hW4]
                  have hPW4 : PW w w.heap.size P g ⟨n.toArray⟩ v (piecesC 44 f) r (vals.set i x) W4 := by
                    rw [hW4]; exact (HPW.out.below (below_drewN (Below.refl _ _) kd)).set i hi8 x
                  have hTO4 : ToAt P G W4 := by
                    rw [hW4]; exact (HTO.out.below (below_drewN (Below.refl _ _) kd)).set (by omega) _ _
                  have f1 := hTO4 i hi8
                  have f2 := (hPW4.val i hi8).1
                  rw [show (vals.set i x).getD i 0 = x from by simp [List.getD, hPW4.len, HLEN.out, hi8]] at f2
                  have HPW4 := Lib.hid hPW4
                  have HTO4 := Lib.hid hTO4
                  clear hv1 hv2 hto1 hwd1 hcell hW4 hTO4
                  by_cases hx : x ≤ 0
                  · have HXX := Lib.hid (HX.out hx)
                    have z := ten (by have := hPW4.zero; rw [zeroArr_eq] at this; exact this)
                    obtain ⟨z0, z1, z2, z3, z4, z5, z6, z7, z8, z9, zf⟩ := z
                    have hx1 : x < 1 := by omega
                    clear hPW4
                    go_wp2_with fail
                    refine bodyPost_ret (v := .tuple #[.agg #[.string ⟨#[]⟩, .slice none 0 0, .int .i64 0, .int .i64 0, .int .i64 0, .int .i64 0, .int .i64 0, .int .i64 0, .int .i64 0, .int .i64 0], .int .i64 3]) (res_plan Tryd.results18 _ _ w.heap.size rfl rfl (set10 _ _ _ _ _ _ _ _ _ _ (by have := HPW4.out.zero; rw [zeroArr_eq] at this; exact this))) rfl ?_
                    exact parse_zero HM.out HPW4.out 3 (by rw [← HA.out, HXX.out]; rfl)
                  · have hxp : ¬ x < 1 := by omega
                    have HYY := Lib.hid (HY.out (by omega))
                    clear hPW4
                    go_wp2_with fail
                    refine ⟨⟨_, _, _, _, ?_, rfl, rfl, rfl, rfl⟩, by simp [intOf]; omega⟩
                    exact ⟨i + 1, _, by omega, by go_num, HPW4.out, HTO4.out, .inr ⟨rfl, by go_num, HYY.out⟩⟩
            · have hi8z : ¬ (i : Int) < 8 := by omega
              obtain rfl : i = 8 := by omega
              have hE : Ends words [] r = none := hps.over hlt
              have HE := Lib.hid hE
              have HPW := Lib.hid hpw
              have z := ten (by have := hpw.zero; rw [zeroArr_eq] at this; exact this)
              obtain ⟨z0, z1, z2, z3, z4, z5, z6, z7, z8, z9, zf⟩ := z
              clear hps hE hpw hto
              go_wp2_with fail
              refine bodyPost_ret (v := .tuple #[.agg #[.string ⟨#[]⟩, .slice none 0 0, .int .i64 0, .int .i64 0, .int .i64 0, .int .i64 0, .int .i64 0, .int .i64 0, .int .i64 0, .int .i64 0], .int .i64 3]) (res_plan Tryd.results18 _ _ w.heap.size rfl rfl (set10 _ _ _ _ _ _ _ _ _ _ (by have := HPW.out.zero; rw [zeroArr_eq] at this; exact this))) rfl ?_
              exact parse_zero HM.out HPW.out 3 (by rw [← HA.out, HE.out]; rfl)
          · have HPW := Lib.hid hpw; have HTO := Lib.hid hto; have HPS := Lib.hid hps
            clear hpw hto hps
            go_wp2_with fail
            all_goals exact ⟨⟨i, c + 1, vals, hi, by omega, rfl, by go_num, HPS.out, HPW.out, HTO.out⟩, by simp [intOf]; omega⟩
      · have hltz : ¬ ((2 + c : Nat) : Int) < (r.length : Int) + 1 + 1 := by omega
        have hE : Ends words [] r = some vals := hps.all hj (by omega)
        clear hps
        obtain ⟨ao, vcap, rfl, _⟩ := id hpw.strs
        obtain ⟨vlen, hvl⟩ : ∃ vlen, (piecesC 44 f).length = vlen := ⟨_, rfl⟩
        rw [hvl] at hpw
        have HVL := Lib.hid hvl
        clear hvl
        have HPW := Lib.hid hpw
        obtain ⟨x0, x1, x2, x3, x4, x5, x6, x7, rfl⟩ := eight hpw.len
        have hy := ten hpw.plan
        obtain ⟨y0, y1, y2, y3, y4, y5, y6, y7, y8, y9, yf⟩ := hy
        have hnsz : (⟨n.toArray⟩ : ByteArray).size ≤ maxLen := by
          have h1 := hnl
          have : (1024 : Nat) ≤ maxLen := by unfold maxLen; decide
          show n.toArray.size ≤ _
          rw [List.size_toArray]; omega
        have hchk := refCheck_any ⟨n.toArray⟩ ao vlen vcap (piecesC 44 f) x0 x1 x2 x3 x4 x5 x6 x7 wr hnsz HVL.out hpw.strs (fun i => by have := piecesC_each 44 f i; omega) hpw.inv.1
        have HE := Lib.hid hE
        generalize hpe : planErr n (piecesC 44 f) [x0, x1, x2, x3, x4, x5, x6, x7] = er at *
        have hchk' : Calls Tryd.prog 46 #[.agg #[.string ⟨n.toArray⟩, .slice ao vlen vcap, .int .i64 x0, .int .i64 x1, .int .i64 x2, .int .i64 x3, .int .i64 x4, .int .i64 x5, .int .i64 x6, .int .i64 x7]] wr (IntRet wr er) := hchk
        have HPE := Lib.hid hpe
        have HCHK := Lib.hid hchk'
        clear hpw hE hpe hchk hchk'
        go_wp2_with fail
        refine HCHK.out.mono ?_
        rintro e w4 ⟨rfl, hI4⟩
        have hpw4 := HPW.out.below hI4.2
        have hz := ten (by have := hpw4.zero; rw [zeroArr_eq] at this; exact this)
        obtain ⟨z0, z1, z2, z3, z4, z5, z6, z7, z8, z9, zf⟩ := hz
        have hy := ten hpw4.plan
        clear y0 y1 y2 y3 y4 y5 y6 y7 y8 y9 yf
        obtain ⟨y0, y1, y2, y3, y4, y5, y6, y7, y8, y9, yf⟩ := hy
        have HPW4 := Lib.hid hpw4
        clear hpw4 hI4 HPW
        by_cases he : er = 0
        · subst he
          go_wp2_with fail
          refine bodyPost_ret (v := .tuple #[.agg #[.string ⟨n.toArray⟩, .slice ao vlen vcap, .int .i64 x0, .int .i64 x1, .int .i64 x2, .int .i64 x3, .int .i64 x4, .int .i64 x5, .int .i64 x6, .int .i64 x7], .int .i64 0]) (res_plan Tryd.results18 _ _ w.heap.size rfl rfl (set10 _ _ _ _ _ _ _ _ _ _ (by have := HPW4.out.zero; rw [zeroArr_eq] at this; exact this))) rfl ?_
          exact parse_good HM.out HPW4.out rfl (by rw [← HA.out, HE.out]; unfold ansP; simp only [HPE.out]; rfl)
        · have dn : ((er : Int) != 0) = true := by simpa using he
          have HER := Lib.hid he
          clear he
          go_wp2_with fail
          refine bodyPost_ret (v := .tuple #[.agg #[.string ⟨#[]⟩, .slice none 0 0, .int .i64 0, .int .i64 0, .int .i64 0, .int .i64 0, .int .i64 0, .int .i64 0, .int .i64 0, .int .i64 0], .int .i64 er]) (res_plan Tryd.results18 _ _ w.heap.size rfl rfl (set10 _ _ _ _ _ _ _ _ _ _ (by have := HPW4.out.zero; rw [zeroArr_eq] at this; exact this))) rfl ?_
          exact parse_zero HM.out HPW4.out er (by rw [← HA.out, HE.out]; unfold ansP; simp only [HPE.out, HER.out, if_false])

end Go.Proofs.YtglgbidcmkncgaaDoor.Subj
