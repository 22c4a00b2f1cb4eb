/- The law IndexFinds, walked: it returns true. -/
import Derived.Test.YtpmffneohcbhbaaDoorFndMem
import Derived.Test.YtpmffneohcbhbaaDoorSubjIs1
namespace Go.Proofs.YtpmffneohcbhbaaDoor.Shf
open Go.RowKit Heap Idx
open Subj (Tok ML pieces Strs StrsAt strAt strsV strsV_len strsV_get strsV_append takes)

theorem err_short2 {l : List UInt8} (h : Subj.err false l = 0) : l.length ≤ 200 := by
  obtain ⟨h1, h2⟩ := err_toks h
  have h3 := joinT_len (pieces l) (fun t ht => (h2 t ht).2)
  rw [join_pieces] at h3
  omega

theorem isB_takes {f s : List UInt8} (h1 : Subj.err true f = 0) (h2 : Subj.err false s = 0) : Subj.isB (Subj.matchR f s) = takes (pieces f) (pieces s) := by
  unfold Subj.isB Subj.matchR
  rw [if_neg (by simp [h1]), if_neg (by simp [h2])]
  simp

theorem put_ab : putL (Subj.err false [97, 46, 98]) [] [97, 46, 98] 7 = ([([97, 46, 98], 7)], 0) := by decide
theorem get_ab : getL (Subj.err false [97, 46, 98]) [([97, 46, 98], 7)] [97, 46, 98] = (7, 0) := by decide
theorem drop_ab : dropL (Subj.err false [97, 46, 98]) [([97, 46, 98], 7)] [97, 46, 98] = ([], 0) := by decide
theorem ab_list : (⟨#[97, 46, 98]⟩ : ByteArray).data.toList = [97, 46, 98] := rfl

theorem string_of (t : Tok) : ∃ S : ByteArray, (⟨t.toArray⟩ : ByteArray) = S ∧ S.data.toList = t ∧ S.size = t.length := ⟨_, rfl, by simp, by show t.toArray.size = _; simp⟩

theorem take_count {α : Type} (p : α → Bool) {T : List α} {j : Nat} {s : α} (h : T[j]? = some s) (B : Bool) (hB : p s = B) : (T.take (j + 1)).countP p = (T.take j).countP p + if B then 1 else 0 := by
  subst hB
  rw [List.take_add_one, h, List.countP_append]
  simp only [Option.toList, List.countP_cons, List.countP_nil, Nat.zero_add]

section
variable {w : World}

set_option maxHeartbeats 8000000 in
set_option maxRecDepth 100000 in
theorem indexFinds_walk (hm : ML w) (ao : Option Addr) (n cap : Nat) (fs : List Tok) (f : ByteArray) (k : Int) (hfs : fs.length = n) (hS : Strs w (.slice ao n cap) fs) (hsz : ∀ t ∈ fs, t.length ≤ 1048576) (hf : f.size ≤ 1048576) (hn : n ≤ 9223372036854775807) :
    Calls Tryd.prog 4 #[.slice ao n cap, .string f, .int .i64 k] w fun e w' => e = .returned (.bool true) ∧ Below w.heap.size w w' := by
  obtain ⟨w1, hw1⟩ : ∃ w1, w1 = w.alloc (.cells #[.slice ao n cap] 43) := ⟨_, rfl⟩
  have hb1 : Below w.heap.size w w1 := by rw [hw1]; exact (Below.refl _ _).alloc (Nat.le_refl _) _
  have hB0 : w1.heap[w.heap.size]? = some (.cells #[.slice ao n cap] 43 (0, 0)) := by rw [hw1]; exact heap_alloc_new w _
  have hsz1 : w1.heap.size = w.heap.size + 1 := by rw [hw1]; simp
  have HNW := Lib.hid (new_any w1)
  have hX := x_new (W := w) (w := w1) hb1
  obtain ⟨w2, hw2⟩ : ∃ w2, w2 = w1.alloc (.cells #[.string ⟨#[]⟩, .slice none 0 0, .bool false, .int .i64 0, .int .i64 0] 84) := ⟨_, rfl⟩
  have hb2 : Below w1.heap.size w1 w2 := by rw [hw2]; exact (Below.refl _ _).alloc (Nat.le_refl _) _
  rw [← hw2] at hX HNW
  obtain ⟨B0, hB⟩ : ∃ B0, w.heap.size = B0 := ⟨_, rfl⟩
  obtain ⟨x, hx⟩ : ∃ x, w1.heap.size = x := ⟨_, rfl⟩
  rw [hB] at hB0
  rw [hx] at hX HNW
  have HF0 := Lib.hid (show FSt w B0 x 0 (.slice ao n cap) [] [] (.slice none 0 0) w2 from
    ⟨⟨_, hX, (by omega), fun k hk => by simp [own, Value.ownBlock] at hk⟩, (hb2.block B0 (by omega)).trans hB0, (by omega), Row.nil _ _ _, fun k hk => by simp [own, Value.ownBlock] at hk⟩)
  have HB := Lib.hid hB; have HML := Lib.hid hm; have HS := Lib.hid hS; have HFS := Lib.hid hfs; have HSZ := Lib.hid hsz
  clear hb1 hB0 hsz1 hX hb2 hx hB hm hS hfs hsz
  go_enter Tryd.func4, Tryd.ntmps4
  go_upto_region 1 with fail
  rw [← hw1, HB.out]
  clear hw1 hw2
  go_wp2_with fail
  refine HNW.out.mono ?_
  rintro e w' ⟨rfl, rfl⟩
  clear HNW
  -- the first subject
  obtain ⟨M, hX0, hc0⟩ := HF0.out.call
  have hP := put_x hX0 (by omega) HML.out ⟨#[97, 46, 98]⟩ (by decide) 7
  rw [ab_list, put_ab] at hP
  have HP := Lib.hid hP; have HC := Lib.hid hc0
  clear hX0 hc0 hP
  go_wp2_with fail
  refine HP.out.mono ?_
  rintro e w3 ⟨rfl, hn3⟩
  have HF1 := Lib.hid (HC.out _ _ _ hn3)
  clear hn3 HC HP HF0
  obtain ⟨M, hX1, hc1⟩ := HF1.out.call
  have HCN := Lib.hid (count_x hX1)
  have hG := get_x hX1 (by omega) HML.out ⟨#[97, 46, 98]⟩ (by decide)
  rw [ab_list, get_ab] at hG
  have HG := Lib.hid hG
  clear hX1 hc1 hG
  go_wp2_with fail
  refine HCN.out.mono ?_
  rintro e w' ⟨rfl, rfl⟩
  clear HCN
  go_wp2_with fail
  refine HG.out.mono ?_
  rintro e w4 ⟨rfl, hb4⟩
  have HF2 := Lib.hid (HF1.out.next hb4)
  clear hb4 HG HF1
  obtain ⟨M, hX2, hc2⟩ := HF2.out.call
  have hD := drop_x hX2 (by omega) HML.out ⟨#[97, 46, 98]⟩ (by decide)
  rw [ab_list, drop_ab] at hD
  have HD := Lib.hid hD; have HC := Lib.hid hc2
  clear hX2 hc2 hD
  go_wp2_with fail
  refine HD.out.mono ?_
  rintro e w5 ⟨rfl, hn5⟩
  have HF3 := Lib.hid (HC.out _ _ _ hn5)
  clear hn5 HC HD HF2
  have cB := HF3.out.cell
  have b0 : w5.cell? ⟨B0, 0, none⟩ = some (.slice ao n cap) := by rw [cell_of_row w5 B0 0 _ _ _ cB]; rfl
  have hBl := heap_lt cB
  obtain ⟨M, hX3, hc3⟩ := HF3.out.call
  have HCN := Lib.hid (count_x hX3)
  clear cB hX3 hc3
  by_cases h60 : 60 < n
  · have h60z : (60 : Int) < n := by omega
    have HFI := Lib.hid HF3.out.below
    go_wp2_with fail
    go_ret
    exact ⟨rfl, HFI.out⟩
  have h60z : ¬ (60 : Int) < n := by omega
  go_wp2_with fail
  refine HCN.out.mono ?_
  rintro e w' ⟨rfl, rfl⟩
  clear HCN
  go_wp2_with fail
  have HF4 := Lib.hid (show ∃ L T, Fnd fs 0 L T ∧ FSt w B0 x (8 + 8 * 0) (.slice ao n cap) L T (.slice none 0 0) w5 from ⟨[], [], fnd_nil fs, HF3.out⟩)
  clear HF3 b0 hBl
  obtain ⟨i0, hi, hz0, hz1, hz2⟩ := info_parts Shf.Del.info_el
  go_loopw [10, 54] (fun v i wr => ∃ j : Nat, j ≤ n ∧ i = .int .i64 j ∧ Hid (∃ L T, Fnd fs j L T ∧ FSt w B0 x (8 + 8 * j) (.slice ao n cap) L T v wr)) (fun _ i _ => n - (intOf i).toNat)
  case atStart => exact ⟨0, Nat.zero_le _, rfl, HF4⟩
  case round =>
    obtain ⟨j, hj, rfl, HR⟩ := hrel
    clear HF4
    obtain ⟨L, T, hfnd, hst⟩ := HR.out
    have HFN := Lib.hid hfnd; have HST := Lib.hid hst
    clear hfnd hst HR
    by_cases hlt : j < n
    · have hltz : (j : Int) < n := by omega
      have hfl : j < fs.length := by rw [HFS.out]; exact hlt
      obtain ⟨s, hs⟩ : ∃ s, fs[j]? = some s := ⟨_, List.getElem?_eq_getElem hfl⟩
      obtain ⟨a', c', hv, hcl, ha⟩ := HS.out.below HST.out.below
      simp only [Value.slice.injEq] at hv
      obtain ⟨rfl, hv0, rfl⟩ := hv
      clear hv0
      obtain ⟨g, off, rfl, hcs⟩ := ha (by intro e; rw [e] at hfl; simp at hfl)
      have hcell := hcs j hfl
      obtain ⟨S, hS1, hS2, hS3⟩ := string_of s
      have hst : strAt fs j = S := by unfold strAt; rw [← hS1]; simp [List.getD, hs]
      rw [hst] at hcell
      have hssz : S.size ≤ 1048576 := by rw [hS3]; exact HSZ.out s (List.mem_of_getElem? hs)
      obtain ⟨M, hX, hcall⟩ := HST.out.call
      have hP := put_x hX (by omega) HML.out S hssz j
      rw [hS2] at hP
      have hTl : T.length ≤ 100 := by have := HFN.out.few; omega
      have HSS := Lib.hid hs; have HS2 := Lib.hid hS2; have HCL := Lib.hid hcall
      have hrs := row_strs (HST.out.row)
      clear hcs hst hS1 hS3 hX hcall ha hcl hfl
      obtain ⟨er, her⟩ : ∃ er, Subj.err false s = er := ⟨_, rfl⟩
      rw [her] at hP
      by_cases he : er = 0
      · subst he
        by_cases hmem : s ∈ T
        · obtain ⟨hf1, hf2⟩ := fnd_hit HFN.out hs hmem
          rw [hf2] at hP
          have hCN := contains_x T u10 S
          rw [HS2.out, decide_eq_true hmem] at hCN
          have HP := Lib.hid hP; have HCN := Lib.hid hCN; have HF1 := Lib.hid hf1
          clear hP hCN hf1 hf2 hs hmem her hrs
          go_wp2_with fail
          refine HP.out.mono ?_
          rintro e w6 ⟨rfl, hn6⟩
          have HST6 := Lib.hid (HCL.out _ _ _ hn6)
          clear hn6 hcell HP
          go_wp2_with fail
          refine (HCN.out _ (row_strs HST6.out.row) (by omega)).mono ?_
          rintro e w' ⟨rfl, rfl⟩
          clear HCN HST
          go_wp2_with fail
          exact ⟨⟨j + 1, by omega, by go_num, Lib.hid ⟨_, _, HF1.out, HST6.out⟩⟩, by simp [intOf]; omega⟩
        · obtain ⟨hf1, hf2⟩ := fnd_new HFN.out hs hmem her (by omega)
          rw [hf2] at hP
          have hCN := contains_x T u10 S
          rw [HS2.out, decide_eq_false hmem] at hCN
          have HP := Lib.hid hP; have HCN := Lib.hid hCN; have HF1 := Lib.hid hf1
          clear hP hCN hf1 hf2 hs hmem her hrs
          go_wp2_with fail
          refine HP.out.mono ?_
          rintro e w6 ⟨rfl, hn6⟩
          have HST6 := Lib.hid (HCL.out _ _ _ hn6)
          clear hn6 hcell HP
          go_wp2_with fail
          refine (HCN.out _ (row_strs HST6.out.row) (by omega)).mono ?_
          rintro e w' ⟨rfl, rfl⟩
          have hel : strsV [s] = [.string S] := by rw [← HS2.out]; cases S; simp [strsV]
          have hr1 : Row (w'.alloc (.cells #[.string S] 9)) 9 1 u10 T.length (strsV T) := HST6.out.row.kept fun k _ hk => Below.heap_alloc _ _ _ hk
          have hnews : ∀ j u, ([.string S] : List Value)[j]? = some u → (w'.alloc (.cells #[.string S] 9)).cell? ((⟨w'.heap.size, 0, none⟩ : Addr).add j) = some u := fun j u hj => by
            rw [Addr.add_lit, cell_of_row _ w'.heap.size (0 + j) _ _ _ (heap_alloc_new w' _), Nat.zero_add]
            rcases j with _ | j
            · simpa using hj
            · simp at hj
          have hone : ∀ u ∈ ([.string S] : List Value), u.oneCell' = true := by
            intro u hu
            simp only [List.mem_cons, List.not_mem_nil, or_false] at hu
            subst hu; rfl
          have HRW := Lib.hid hr1; have HNW := Lib.hid hnews; have HON := Lib.hid hone; have HEL := Lib.hid hel
          clear hr1 hnews hone hel HCN HST
          go_wp2_with (at_builtin; refine Heap.wpList_append_row _ rfl (.tmp 70) (.tmp 72) 43 rfl 9 i0 _ 1 16 Tryd.underlying43 hi hz0 hz1 hz2 rfl (by decide) _ T.length _ rfl HRW.out ⟨w'.heap.size, 0, none⟩ 1 1 [.string S] rfl rfl HNW.out HON.out (by unfold maxLen; omega) (by omega) ?_)
          intro v2 w7 r7 t7 o7
          have HF := Lib.hid (show FSt w B0 x (8 + 8 * j + 8) (.slice (some ⟨g, off, none⟩) n cap) (putL 0 L s (j : Nat)).1 (T ++ [s]) v2 w7 from
            (HST6.out.next ((Below.refl _ _).alloc (Nat.le_refl _) (.cells #[.string S] 9))).grow t7 (by rw [List.length_append, strsV_append, HEL.out]; exact r7) (fun k hk => (o7 k hk).imp id fun h => by simpa using h))
          clear r7 t7 o7 HRW HNW HON
          go_wp2_with fail
          exact ⟨⟨j + 1, by omega, by go_num, Lib.hid ⟨_, _, HF1.out, HF.out⟩⟩, by simp [intOf]; omega⟩
      · obtain ⟨hf1, hf2⟩ := fnd_bad HFN.out he (j : Int)
        rw [hf2] at hP
        have he0 : ((er : Int) == 0) = false := by simpa using he
        have HP := Lib.hid hP; have HF1 := Lib.hid hf1
        clear hP hf1 hf2 hs her hrs he
        go_wp2_with fail
        refine HP.out.mono ?_
        rintro e w6 ⟨rfl, hn6⟩
        have HST6 := Lib.hid (HCL.out _ _ _ hn6)
        clear hn6 hcell HP HST
        go_wp2_with fail
        exact ⟨⟨j + 1, by omega, by go_num, Lib.hid ⟨_, _, HF1.out, HST6.out⟩⟩, by simp [intOf]; omega⟩
    · have hltz : ¬ (j : Int) < n := by omega
      obtain rfl : j = n := by omega
      obtain ⟨va, vc, hv⟩ := HST.out.row.slice
      subst hv
      obtain ⟨m, hmT⟩ : ∃ m, T.length = m := ⟨_, rfl⟩
      have hm60 : m ≤ 60 := by have := HFN.out.few; omega
      have HMT := Lib.hid hmT
      rw [hmT]
      clear hmT
      have hn60 : j ≤ 60 := by omega
      go_upto_if 77 with fail
      go_cut [10, 13] from 78 to 102 (fun s10 _ wx => Hid (∃ L2 T2, Fnd fs j L2 T2 ∧ FSt w B0 x (8 + 8 * j) (.slice ao j cap) L2 T2 s10 wx))
      case first =>
        by_cases hm0 : m = 0
        · subst hm0
          go_wp2_with fail
          go_meet
          rw [← HMT.out]
          exact Lib.hid ⟨L, T, HFN.out, HST.out⟩
        · have hmz : (0 : Int) < m := by omega
          obtain ⟨i, hi⟩ : ∃ i : Nat, k % (m : Int) = (i : Int) := ⟨(k % (m : Int)).toNat, by have := Int.emod_nonneg k (show (m : Int) ≠ 0 by omega); omega⟩
          have him : i < m := by have := Int.emod_lt_of_pos k hmz; omega
          have hrs := fun wx => rest_x k m wx hmz (by omega)
          rw [hi] at hrs
          have HRS := Lib.hid hrs
          obtain ⟨s, hs⟩ : ∃ s, T[i]? = some s := ⟨_, List.getElem?_eq_getElem (by rw [HMT.out]; exact him)⟩
          have her := HFN.out.right s (List.mem_of_getElem? hs)
          have hsl := err_short2 her
          obtain ⟨S, hS1, hS2, hS3⟩ := string_of s
          have hst : strAt T i = S := by unfold strAt; rw [← hS1]; simp [List.getD, hs]
          obtain ⟨M, hX, hcall⟩ := HST.out.call
          obtain ⟨hf1, hf2, hf3⟩ := fnd_drop HFN.out hX.sorted hs
          obtain ⟨L1, hL1⟩ : ∃ L1, (dropL 0 L s).1 = L1 := ⟨_, rfl⟩
          have hD := drop_x hX (by omega) HML.out S (by rw [hS3]; omega)
          rw [hS2, her, hf2, hL1] at hD
          rw [hL1] at hf1 hf3
          have hD2 := fun (wx : World) (M' : Nat → Prop) (hx : XAt w M' x (8 + 8 * j) L1 wx) => drop_x hx (by omega) HML.out S (by rw [hS3]; omega)
          simp only [hS2, her, hf3] at hD2
          have hrow := HST.out.row
          rw [HMT.out] at hrow
          rcases hrow.2 with ⟨_, h0⟩ | ⟨g, off, cp, cur, ev, hg, _⟩
          · omega
          simp only [Value.slice.injEq, true_and] at ev
          obtain ⟨rfl, rfl⟩ := ev
          have hc1 : ∀ wx, Row wx 9 1 (.slice (some ⟨g, off, none⟩) m vc) m (strsV T) → wx.cell? ⟨g, off + i, none⟩ = some (.string S) := fun wx hrx => by
            rw [(hrx.cell i (by omega)).1, strsV_get _ _ (by rw [HMT.out]; exact him), hst]
          have d0 := hc1 _ hrow
          have HD := Lib.hid hD; have HD2 := Lib.hid hD2; have HC1 := Lib.hid hc1; have HF1 := Lib.hid hf1; have HCL := Lib.hid hcall
          have hiz : (i : Int) < m := by omega
          clear hs her hsl hS1 hS2 hS3 hst hX hcall hf1 hf2 hf3 hL1 hD hD2 hrow hg hc1 hrs hi
          go_wp2_with fail
          refine (HRS.out _).mono ?_
          rintro e w' ⟨rfl, rfl⟩
          go_wp2_with fail
          refine HD.out.mono ?_
          rintro e w6 ⟨rfl, hn6⟩
          have HST6 := Lib.hid (HCL.out _ _ _ hn6)
          clear hn6 d0 HD HCL
          have hr6 := HST6.out.row
          rw [HMT.out] at hr6
          have d1 := HC1.out _ hr6
          obtain ⟨M6, hX6, hcall6⟩ := HST6.out.call
          have HD6 := Lib.hid (HD2.out _ _ hX6); have HCL6 := Lib.hid hcall6
          clear hr6 hX6 hcall6 HD2
          go_wp2_with fail
          refine HD6.out.mono ?_
          rintro e w7 ⟨rfl, hn7⟩
          have HST7 := Lib.hid (HCL6.out _ _ _ hn7)
          clear hn7 d1 HD6 HCL6 HST6 HC1
          obtain ⟨m', rfl⟩ : ∃ m', m = m' + 1 := ⟨m - 1, by omega⟩
          have hr7 := HST7.out.row
          rw [HMT.out] at hr7
          have HDL := Lib.hid (Del.delete_any g off vc (by omega) (show i ≤ m' by omega) hr7 (strsV_one T))
          clear hr7
          go_wp2_with fail
          refine HDL.out.mono ?_
          rintro e w8 ⟨rfl, hr8, ht8⟩
          have HF := Lib.hid (show FSt w B0 x (8 + 8 * j) (.slice ao j cap) L1 (T.eraseIdx i) (.slice (some ⟨g, off, none⟩) m' vc) w8 from by
            have hel : (T.eraseIdx i).length = m' := by rw [List.length_eraseIdx, HMT.out, if_pos him]; omega
            refine HST7.out.grow (by rw [HMT.out]; exact ht8) ?_ (fun k hk => .inl (by simpa [own, Value.ownBlock] using hk))
            rw [hel, show strsV (T.eraseIdx i) = (strsV T).take i ++ (strsV T).drop (i + 1) from by
              unfold strsV; rw [List.eraseIdx_eq_take_drop_succ, List.map_append, List.map_take, List.map_drop]]
            exact hr8)
          clear hr8 ht8 HDL
          go_wp2_with fail
          go_meet
          exact Lib.hid ⟨_, _, HF1.out, HF.out⟩
      case rest =>
      clear HFN HST HMT
      obtain ⟨L2, T2, hfn, hst⟩ := hcut.out
      have HFN := Lib.hid hfn; have HST := Lib.hid hst
      clear hfn hst hcut
      obtain ⟨M, hX, hcall⟩ := HST.out.call
      have hFI := find_x hX (by omega) HML.out f hf
      obtain ⟨er, her⟩ : ∃ er, Subj.err true f.data.toList = er := ⟨_, rfl⟩
      obtain ⟨FL, hFL⟩ : ∃ FL, findL L2 f.data.toList = FL := ⟨_, rfl⟩
      have hcount := fnd_count HFN.out f.data.toList
      have hlen := HFN.out.len
      have hT60 : T2.length ≤ 60 := by have := HFN.out.few; omega
      have hFl : FL.length ≤ 60 := by rw [← hFL, hcount]; exact Nat.le_trans (List.countP_le_length) hT60
      rw [her, hFL] at hFI
      have HFIND := Lib.hid hFI; have HER := Lib.hid her; have HFL := Lib.hid hFL; have HCO := Lib.hid hcount; have HLE := Lib.hid hlen
      clear hX hcall hFI her hFL hcount hlen
      go_wp2_with fail
      refine HFIND.out.mono ?_
      rintro e w9 ⟨hb9, hcase⟩
      have HST9 := Lib.hid (HST.out.next hb9)
      clear HFIND
      rcases hcase with ⟨he, rfl⟩ | ⟨rfl, v9, rfl, hr9, ho9⟩
      · have HFT := Lib.hid (Subj.filter_any f w9 hf (HML.out.below HST9.out.below))
        rw [HER.out] at HFT
        have he0 : ((er : Int) != 0) = true := by simpa using he
        clear he hb9
        go_wp2_with fail
        refine HFT.out.mono ?_
        rintro e w10 ⟨rfl, hb10⟩
        have HFI := Lib.hid (HST9.out.next hb10).below
        clear hb10 HFT
        go_wp2_with fail
        go_ret
        exact ⟨rfl, HFI.out⟩
      · obtain ⟨fl, hfl⟩ : ∃ fl, FL.length = fl := ⟨_, rfl⟩
        have HR9 := Lib.hid hr9; have HO9 := Lib.hid ho9; have HFLN := Lib.hid hfl; have HB9 := Lib.hid hb9
        rw [hfl] at hr9 hFl
        obtain ⟨a9, c9, hv9⟩ := hr9.slice
        subst hv9
        obtain ⟨m, hmT⟩ : ∃ m, T2.length = m := ⟨_, rfl⟩
        have HMT := Lib.hid hmT
        rw [hmT] at hT60
        obtain ⟨va, vc, hv⟩ := HST9.out.row.slice
        subst hv
        rw [hmT]
        clear hb9 hr9 ho9 hfl hmT
        go_wp2_with fail
        go_loopw [16, 122] (fun c i wr => ∃ q : Nat, q ≤ m ∧ i = .int .i64 q ∧ (∃ cn : Nat, c = .int .i64 cn ∧ cn = (T2.take q).countP (fun s => takes (pieces f.data.toList) (pieces s))) ∧ Hid (Below w9.heap.size w9 wr)) (fun _ i _ => m - (intOf i).toNat)
        case atStart => exact ⟨0, Nat.zero_le _, rfl, ⟨0, rfl, rfl⟩, Lib.hid (Below.refl _ _)⟩
        case round =>
          obtain ⟨q, hq, rfl, ⟨cn, rfl, hcn⟩, HW⟩ := hrel
          have HCN := Lib.hid hcn
          have hmj : m ≤ j := by rw [← HMT.out]; exact HFN.out.few
          have hcn60 : cn ≤ 60 := by
            rw [hcn]
            refine Nat.le_trans List.countP_le_length ?_
            rw [List.length_take]; omega
          clear hcn
          by_cases hlt : q < m
          · have hltz : (q : Int) < m := by omega
            obtain ⟨s, hs⟩ : ∃ s, T2[q]? = some s := ⟨_, List.getElem?_eq_getElem (by rw [HMT.out]; exact hlt)⟩
            have hsm := List.mem_of_getElem? hs
            have hesr := HFN.out.right s hsm
            have hsl := err_short2 hesr
            obtain ⟨S, hS1, hS2, hS3⟩ := string_of s
            have hst : strAt T2 q = S := by unfold strAt; rw [← hS1]; simp [List.getD, hs]
            have hSr := HST9.out.next HW.out
            have hrow := hSr.row
            rw [HMT.out] at hrow
            rcases hrow.2 with ⟨_, h0⟩ | ⟨g, off, cp, cur, ev, hg, _⟩
            · omega
            simp only [Value.slice.injEq, true_and] at ev
            obtain ⟨rfl, rfl⟩ := ev
            have d0 : wr.cell? ⟨g, off + q, none⟩ = some (.string S) := by
              rw [(hrow.cell q (by omega)).1, strsV_get _ _ (by rw [HMT.out]; exact hlt), hst]
            obtain ⟨wa, hwa⟩ : ∃ wa, wa = wr.alloc (.cells #[.string S] 9) := ⟨_, rfl⟩
            have hba : Below wr.heap.size wr wa := by rw [hwa]; exact (Below.refl _ _).alloc (Nat.le_refl _) _
            have hea : wa.heap[wr.heap.size]? = some (.cells #[.string S] 9 (0, 0)) := by rw [hwa]; exact heap_alloc_new wr _
            obtain ⟨bx, hbx⟩ : ∃ bx, wr.heap.size = bx := ⟨_, rfl⟩
            have hbxs : bx < wa.heap.size := by rw [← hbx]; exact heap_lt hea
            have hbx9 : w9.heap.size ≤ bx := by rw [← hbx]; exact HW.out.size
            rw [hbx] at hea
            obtain ⟨B, hBB⟩ : ∃ B, takes (pieces f.data.toList) (pieces s) = B := ⟨_, rfl⟩
            have hSz : S.size ≤ 1048576 := by rw [hS3]; omega
            have hIS := Subj.is_match f S wa hf hSz (HML.out.below (hSr.next hba).below)
            rw [hS2, isB_takes HER.out hesr, hBB] at hIS
            have hcnt := take_count (fun s => takes (pieces f.data.toList) (pieces s)) hs B hBB
            have q0 : wa.cell? ⟨bx, 0, none⟩ = some (.string S) := by rw [cell_of_row wa bx 0 _ _ _ hea]; rfl
            have HIS := Lib.hid hIS; have HCT := Lib.hid hcnt; have HSr := Lib.hid (hSr.next hba); have HBA := Lib.hid hba; have HBX := Lib.hid hbx; have HEA := Lib.hid hea; have HS2 := Lib.hid hS2; have HSM := Lib.hid hsm; have HBBB := Lib.hid hBB
            clear hs hsm hesr hsl hS1 hS2 hS3 hst hSr hrow hg hba hea hbx hBB hSz hIS hcnt
            go_upto_region 29 with fail
            rw [← hwa, HBX.out]
            clear hwa d0
            go_wp2_with fail
            refine HIS.out.mono ?_
            rintro e w10 ⟨rfl, hb10⟩
            have HB10 := Lib.hid (HW.out.trans ((HBA.out.trans (hb10.mono HBA.out.size)).mono HW.out.size))
            have HST10 := Lib.hid (HSr.out.next hb10)
            have q1 : w10.cell? ⟨bx, 0, none⟩ = some (.string S) := by
              have := (hb10.block bx hbxs).trans HEA.out
              rw [cell_of_row w10 bx 0 _ _ _ this]; rfl
            clear hb10 HIS q0 HSr HW
            cases B with
            | false =>
              go_wp2_with fail
              exact ⟨⟨q + 1, by omega, by go_num, ⟨cn, rfl, by rw [HCT.out, HCN.out]; rfl⟩, HB10⟩, by simp [intOf]; omega⟩
            | true =>
              have hrow := HR9.out.kept (w' := w10) fun k _ hk => HB10.out.block k hk
              have hsz10 := HB10.out.size
              have hst10 := HS.out.below HST10.out.below
              have hcB := HST10.out.cell
              have hB0 : w10.cell? ⟨B0, 0, none⟩ = some (.slice ao j cap) := by rw [cell_of_row w10 B0 0 _ _ _ hcB]; rfl
              have hown : ∀ k, own (.slice a9 fl c9) k → k ≠ bx ∧ B0 < k := fun k hk => by
                have h1 := HR9.out.lt k hk
                have h2 := HO9.out k hk
                have h3 := heap_lt HST.out.cell
                exact ⟨by omega, by omega⟩
              have hnam : ∀ k, own (.slice ao j cap) k → k < B0 := fun k hk => by
                obtain ⟨a', c', hv, hcl, ha⟩ := HS.out
                have hne : fs ≠ [] := by
                  intro e
                  have h1 := HFS.out
                  rw [e] at h1
                  simp at h1; omega
                obtain ⟨g', off', rfl, hcs⟩ := ha hne
                simp only [Value.slice.injEq] at hv
                obtain ⟨rfl, _, _⟩ := hv
                have hcell := hcs 0 (by rw [HFS.out]; omega)
                have h5 := World.block_lt_of_cell? w _ hcell
                simp [own, Value.ownBlock] at hk
                have h6 := HB.out
                simp only at h5
                omega
              have hcf := containsF_x 28 #[.pointer (some ⟨bx, 0, none⟩), .pointer (some ⟨B0, 0, none⟩)] (fun p => p.1 == S.data.toList) (CapAt fs (.slice ao j cap) bx B0 S) (fun _ _ => rfl) _ FL w10 hrow (by rw [HFLN.out]; omega) ⟨q1, hB0, hst10⟩
                (fun Wa Wb ⟨x1, x2, x3⟩ ht => ⟨(ht.cell (World.block_lt_of_cell? Wa _ x1) (fun ho => (hown _ ho).1 rfl)).trans x1, (ht.cell (World.block_lt_of_cell? Wa _ x2) (fun ho => by have := (hown _ ho).2; simp only at this; omega)).trans x2, touch_strsV x3 ht fun k hk hk2 => by have := hnam k hk; have := (hown k hk2).2; omega⟩)
                (tells_n fs _ bx B0 S FL (fun e he => by
                  rw [← HFL.out] at he
                  obtain ⟨jj, _, h2, h3⟩ := HFN.out.name e (List.mem_filter.1 he).1
                  exact ⟨jj, h2, h3⟩))
              have hany : FL.any (fun p => p.1 == S.data.toList) = true := by
                obtain ⟨e, he, hes⟩ := (HFN.out.mem s).1 HSM.out
                rw [List.any_eq_true]
                refine ⟨e, ?_, by rw [hes, HS2.out]; simp⟩
                rw [← HFL.out]
                unfold findL
                rw [List.mem_filter, hes]
                exact ⟨he, HBBB.out⟩
              rw [hany] at hcf
              have HCF := Lib.hid hcf
              clear hrow hst10 hcB hB0 hown hnam hcf hany q1
              go_wp2_with fail
              refine HCF.out.mono ?_
              rintro e w11 ⟨rfl, hb11⟩
              have HB11 := Lib.hid (HB10.out.trans (hb11.mono hsz10))
              clear hb11 HCF HB10
              go_wp2_with fail
              exact ⟨⟨q + 1, by omega, by go_num, ⟨cn + 1, by go_num, by rw [HCT.out, HCN.out]; rfl⟩, HB11⟩, by simp [intOf]; omega⟩
          · have hltz : ¬ (q : Int) < m := by omega
            obtain rfl : q = m := by omega
            have hce : cn = fl := by
              have h1 := HCN.out
              rw [List.take_of_length_le (by rw [HMT.out]; exact Nat.le_refl _)] at h1
              have h2 := HCO.out
              rw [HFL.out, HFLN.out] at h2
              rw [h1, h2]
            subst hce
            have HSr := Lib.hid (HST9.out.next HW.out)
            obtain ⟨M, hX, _⟩ := HSr.out.call
            have hC := count_x hX
            rw [HLE.out, HMT.out] at hC
            have HC := Lib.hid hC
            have HFI := Lib.hid HSr.out.below
            clear hX hC HSr HW
            go_wp2_with fail
            refine HC.out.mono ?_
            rintro e w' ⟨rfl, rfl⟩
            clear HC
            go_wp2_with fail
            go_ret
            exact ⟨rfl, HFI.out⟩
end
end Go.Proofs.YtpmffneohcbhbaaDoor.Shf
