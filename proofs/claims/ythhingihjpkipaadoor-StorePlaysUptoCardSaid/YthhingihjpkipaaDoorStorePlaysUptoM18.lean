/- Parts of the proof, joined: (*rillref.Shelf).Find, walked; two slices of entries compared (slices.Equal).; The reference's chest: Subjects, walked.; 'is' and 'known', walked; and the laws of filters that hold of the Lean functions.; The law StorePurges, walked: it returns true.; The law StoreSums, walked: it returns true. -/
import Derived.Test.YthhingihjpkipaaDoorStorePlaysUptoM17
namespace Go.Proofs.YthhingihjpkipaaDoor.Shf
open Go.RowKit Heap Idx
open Subj (Tok ML pieces takes)

theorem findL_step {A : Ents} {k : Nat} {p : Tok × Int} (hp : A[k]? = some p) (t : Tok) (B : Bool) (hB : takes (pieces t) (pieces p.1) = B) : findL (A.take (k + 1)) t = findL (A.take k) t ++ if B then [p] else [] := by
  subst hB
  unfold findL
  rw [List.take_add_one, hp, List.filter_append]
  congr 1
  simp only [Option.toList, List.filter_cons, List.filter_nil]

/-- What has been found so far. -/
def OutE (w wr : World) (o : Value) (L : Ents) : Prop := Row wr 108 2 o L.length (entV L) ∧ ∀ k, own o k → w.heap.size ≤ k

section
variable {W w : World} {G : Nat → Prop} {E : Nat} {A : Ents}

theorem OutE.next {w wr w' : World} {o : Value} {L : Ents} (h : OutE w wr o L) (hb : Below wr.heap.size wr w') : OutE w w' o L := ⟨h.1.kept fun k _ hk => hb.block k hk, h.2⟩

set_option maxHeartbeats 4000000 in
set_option maxRecDepth 100000 in
theorem find_shf (h : ShelfAt W G E A w) (f : ByteArray) (hf : f.size ≤ 1048576) :
    Calls Tryd.prog 94 #[.pointer (some ⟨E, 0, none⟩), .string f] w (FindPost (Subj.err true f.data.toList) (findL A f.data.toList) w) := by
  have HSU := Lib.hid (Subj.refFilter_any f w hf)
  have HTK := Lib.hid (fun s w1 hs => Subj.takesS_ref f s w1 hf hs)
  have HH := Lib.hid h
  generalize Subj.err true f.data.toList = er at *
  generalize f.data.toList = t at *
  by_cases he : er = 0
  · subst he
    obtain ⟨m, hm⟩ : ∃ m, A.length = m := ⟨_, rfl⟩
    have hfew : m ≤ 100 := by rw [← hm]; exact h.few
    have HN := Lib.hid hm
    obtain ⟨i0, hi, hz0, hz1, hz2⟩ := info_parts Shf.Ins.info_el
    clear h hf hm
    go_enter Tryd.func94, Tryd.ntmps94
    go_wp2_with fail
    refine HSU.out.mono ?_
    rintro e w1 ⟨rfl, hb1⟩
    have HB1 := Lib.hid hb1
    clear hb1 HSU
    go_wp2_with fail
    go_loopw [7, 8] (fun o i wr => ∃ k : Nat, k ≤ m ∧ i = .int .i64 k ∧ Hid (Below w.heap.size w wr) ∧ Hid (OutE w wr o (findL (A.take k) t))) (fun _ i _ => m - (intOf i).toNat)
    case atStart => exact ⟨0, Nat.zero_le _, rfl, HB1, Lib.hid ⟨Row.nil _ _ _, fun k hk => by simp [own, Value.ownBlock] at hk⟩⟩
    case round =>
      obtain ⟨k, hk, rfl, HW, HO⟩ := hrel
      obtain ⟨v, h1, h2, h3⟩ := (HH.out.next HW.out).mem
      obtain ⟨c0, cf⟩ := oneC h1
      have hEl := heap_lt h1
      rw [HN.out] at h2
      by_cases hlt : k < m
      · have hltz : (k : Int) < m := by omega
        obtain ⟨p, hp⟩ : ∃ p, A[k]? = some p := ⟨_, List.getElem?_eq_getElem (by rw [HN.out]; exact hlt)⟩
        have hpsz : (⟨p.1.toArray⟩ : ByteArray).size ≤ 1048576 := by
          have := HH.out.short p (List.mem_of_getElem? hp)
          show p.1.toArray.size ≤ _
          rw [List.size_toArray]; omega
        have htk := fun w1 => HTK.out ⟨p.1.toArray⟩ w1 hpsz
        simp only [List.toList_toArray] at htk
        obtain ⟨B, hB⟩ : ∃ B, takes (pieces t) (pieces p.1) = B := ⟨_, rfl⟩
        rw [hB] at htk
        have HTK1 := Lib.hid htk; have HP := Lib.hid hp
        have hst := findL_step hp t B hB
        have HST := Lib.hid hst
        rcases h2.2 with ⟨_, h0⟩ | ⟨g, off, cap, cur, rfl, _⟩
        · omega
        obtain ⟨d0, d1⟩ := cells_pull h2 k p hp hlt
        clear h1 h2 h3 hp hpsz htk hB hst d1
        go_wp2_with fail
        refine (HTK1.out _).mono ?_
        rintro e w3 ⟨rfl, hb3⟩
        have HW3 := Lib.hid (HW.out.trans (hb3.mono HW.out.size))
        have HO3 := Lib.hid (HO.out.next hb3)
        clear hb3 HTK1 c0 cf hEl d0 HW HO
        cases B with
        | false =>
          clear HP
          go_wp2_with fail
          exact ⟨⟨k + 1, by omega, by go_num, HW3, Lib.hid (by rw [HST.out]; simpa using HO3.out)⟩, by simp [intOf]; omega⟩
        | true =>
          obtain ⟨v, h1, h2, h3⟩ := (HH.out.next HW3.out).mem
          obtain ⟨c0, cf⟩ := oneC h1
          have hEl := heap_lt h1
          rw [HN.out] at h2
          rcases h2.2 with ⟨_, h0⟩ | ⟨g, off, cap, cur, rfl, _⟩
          · omega
          obtain ⟨d0, d1⟩ := cells_pull h2 k p HP.out hlt
          obtain ⟨S, hS⟩ : ∃ S : ByteArray, (⟨p.1.toArray⟩ : ByteArray) = S := ⟨_, rfl⟩
          obtain ⟨nn, hnn⟩ : ∃ nn : Int, p.2 = nn := ⟨_, rfl⟩
          have hel : entV [p] = [.string S, .int .i64 nn] := by rw [← hS, ← hnn]; rfl
          rw [hS] at d0
          rw [hnn] at d1
          have hfl : (findL (A.take k) t).length ≤ 100 := by
            have h5 := List.length_filter_le (fun y : Tok × Int => takes (pieces t) (pieces y.1)) (A.take k)
            have h6 : (A.take k).length ≤ 100 := by rw [List.length_take, HN.out]; omega
            unfold findL; omega
          obtain ⟨FL, hFL⟩ : ∃ FL, findL (A.take k) t = FL := ⟨_, rfl⟩
          rw [hFL] at HO3 HST hfl
          have hr1 : Row (w3.alloc (.cells #[.string S, .int .i64 nn] 108)) 108 2 u7 FL.length (entV FL) := HO3.out.1.kept fun k _ hk => Below.heap_alloc _ _ _ hk
          have hnews : ∀ j u, ([.string S, .int .i64 nn] : List Value)[j]? = some u → (w3.alloc (.cells #[.string S, .int .i64 nn] 108)).cell? ((⟨w3.heap.size, 0, none⟩ : Addr).add j) = some u := fun j u hj => by
            rw [Addr.add_lit, cell_of_row _ w3.heap.size (0 + j) _ _ _ (heap_alloc_new w3 _), Nat.zero_add]
            rcases j with _ | _ | j
            · simpa using hj
            · simpa using hj
            · simp at hj
          have hone : ∀ u ∈ ([.string S, .int .i64 nn] : List Value), u.oneCell' = true := by
            intro u hu
            simp only [List.mem_cons, List.not_mem_nil, or_false] at hu
            rcases hu with rfl | rfl <;> rfl
          have HR := Lib.hid hr1; have HNW := Lib.hid hnews; have HON := Lib.hid hone; have HEL := Lib.hid hel
          clear h1 h2 h3 hr1 hnews hone hel hS hnn hFL HP
          go_wp2_with (at_builtin; refine Heap.wpList_append_row _ rfl (.tmp 33) (.tmp 41) 103 rfl 108 i0 _ 2 24 Tryd.underlying103 hi hz0 hz1 hz2 rfl (by decide) _ FL.length _ rfl HR.out ⟨w3.heap.size, 0, none⟩ 1 1 [.string S, .int .i64 nn] rfl rfl HNW.out HON.out (by unfold maxLen; omega) (by omega) ?_)
          intro v2 w4 r4 t4 o4
          have HF := Lib.hid (show Below w.heap.size w w4 ∧ OutE w w4 v2 (FL ++ [p]) from by
            have hb3 : Below w.heap.size w (w3.alloc (.cells #[.string S, .int .i64 nn] 108)) := HW3.out.alloc HW3.out.size _
            refine ⟨hb3.trans (t4.below hb3.size fun k hk => HO3.out.2 k hk), ?_, fun k hk => ?_⟩
            · rw [List.length_append, entV_append, HEL.out]; exact r4
            · rcases o4 k hk with h | h
              · exact HO3.out.2 k h
              · have h9 := HW3.out.size; omega)
          clear r4 t4 o4 HR HNW HON c0 cf hEl d0 d1 HO3 HW3
          go_wp2_with fail
          exact ⟨⟨k + 1, by omega, by go_num, Lib.hid HF.out.1, Lib.hid (by rw [HST.out]; exact HF.out.2)⟩, by simp [intOf]; omega⟩
      · have hltz : ¬ (k : Int) < m := by omega
        obtain rfl : k = m := by omega
        obtain ⟨va, vc, rfl⟩ := h2.slice
        have HF := Lib.hid (show FindPost 0 (findL A t) w (.returned (.tuple #[u7, .int .i64 0])) wr from by
          have h5 := HO.out
          rw [List.take_of_length_le (by rw [HN.out]; exact Nat.le_refl _)] at h5
          exact ⟨HW.out, .inr ⟨rfl, u7, rfl, h5.1, h5.2⟩⟩)
        clear h1 h2 h3 HO
        go_wp2_with fail
        go_ret2
        exact HF.out
  · have he0 : ((er : Int) != 0) = true := by simpa using he
    have HE := Lib.hid he
    clear h hf he
    go_enter Tryd.func94, Tryd.ntmps94
    go_wp2_with fail
    refine HSU.out.mono ?_
    rintro e w1 ⟨rfl, hb1⟩
    have HB1 := Lib.hid hb1
    clear hb1 HSU
    go_wp2_with fail
    go_ret2
    exact ⟨HB1.out, .inl ⟨HE.out, rfl⟩⟩

set_option maxHeartbeats 2000000 in
set_option maxRecDepth 100000 in
theorem equal_ents {v1 v2 : Value} {l : Ents} (h1 : Row w 108 2 v1 l.length (entV l)) (h2 : Row w 108 2 v2 l.length (entV l)) (hl : l.length ≤ 100000) :
    Calls Tryd.prog 54 #[v1, v2] w fun e w' => e = .returned (.bool true) ∧ ∃ q, w' = w.drewN q := by
  obtain ⟨n, hn⟩ : ∃ n, l.length = n := ⟨_, rfl⟩
  rw [hn] at h1 h2 hl
  obtain ⟨a1, c1, rfl⟩ := h1.slice
  obtain ⟨a2, c2, rfl⟩ := h2.slice
  have H1 := Lib.hid h1; have H2 := Lib.hid h2; have HN := Lib.hid hn
  clear h1 h2 hn
  go_enter Tryd.func54, Tryd.ntmps54
  go_wp2_with fail
  go_loopw [13] (fun i wr => ∃ k : Nat, k ≤ n ∧ i = .int .i64 k ∧ ∃ q, wr = w.drewN q) (fun i _ => n - (intOf i).toNat)
  case atStart => exact ⟨0, Nat.zero_le _, rfl, 0, rfl⟩
  case round =>
    obtain ⟨k, hk, rfl, q, rfl⟩ := hrel
    by_cases hlt : k < n
    · have hltz : (k : Int) < n := by omega
      obtain ⟨p, hp⟩ : ∃ p, l[k]? = some p := ⟨_, List.getElem?_eq_getElem (by rw [HN.out]; exact hlt)⟩
      have x1 := H1.out
      have x2 := H2.out
      rcases x1.2 with ⟨_, h0⟩ | ⟨g1, o1, cc1, cur1, e1, _⟩
      · omega
      rcases x2.2 with ⟨_, h0⟩ | ⟨g2, o2, cc2, cur2, e2, _⟩
      · omega
      simp only [Value.slice.injEq, true_and] at e1 e2
      obtain ⟨rfl, rfl⟩ := e1
      obtain ⟨rfl, rfl⟩ := e2
      obtain ⟨d0, d1⟩ := cells_pull x1 k p hp hlt
      obtain ⟨y0, y1⟩ := cells_pull x2 k p hp hlt
      generalize (⟨p.1.toArray⟩ : ByteArray) = S at d0 y0
      generalize p.2 = nn at d1 y1
      clear hp x1 x2
      go_wp2_with fail
      go_quiet (fail)
      go_wp2_with fail
      exact ⟨⟨k + 1, by omega, by go_num, _, rfl⟩, by simp [intOf]; omega⟩
    · have hltz : ¬ (k : Int) < n := by omega
      go_wp2_with fail
      go_ret
      exact ⟨rfl, _, rfl⟩
end
end Go.Proofs.YthhingihjpkipaaDoor.Shf

namespace Go.Proofs.YthhingihjpkipaaDoor.Sto
open Go.RowKit Heap
open Subj (Tok ML pieces takes)
open Rec (Rc recErr far)
open Idx (Ents ptrV before before_irrefl before_trans rising_ext idxL idxL_cases insL_sorted findL FindPost)
open Shf (SortedE putL getL ShelfAt NextS get_shf put_shf find_shf)

theorem put_sorted {I : Ents} {s : Tok} {n : Int} (h : SortedE I) : SortedE (putL 0 I s n).1 := by
  unfold putL
  rw [if_neg (by simp)]
  rcases idxL_cases I s with ⟨e1, e2⟩ | ⟨k, p, e1, e2, e3, _⟩
  · rw [if_neg (by omega)]
    split
    · exact h
    · exact insL_sorted h e2
  · rw [if_pos (by omega), e1]
    show SortedE (I.set k (s, n))
    unfold SortedE at h ⊢
    have e : (I.set k (s, n)).map (·.1) = I.map (·.1) := by
      rw [List.map_set]
      obtain ⟨hk, e4⟩ := List.getElem?_eq_some_iff.1 e2
      apply List.ext_getElem?
      intro j
      rw [List.getElem?_set]
      split
      · rename_i hj
        subst hj
        simp [hk, e4, e3]
      · rfl
    have h2 : (I.map (·.1)).Pairwise fun x y => before (pieces x) (pieces y) = true := List.pairwise_map.2 h
    rw [← e] at h2
    exact List.pairwise_map.1 h2

/-- One index counts. -/
theorem counts_one {I J : Ents} {L : List Rc} (h1 : SortedE I) (h2 : SortedE J) (c1 : Counts I L) (c2 : Counts J L) : I = J :=
  rising_ext (lt := fun x y : Tok × Int => before (pieces x.1) (pieces y.1) = true) (fun a h => by rw [before_irrefl] at h; cases h) (fun a b c h k => before_trans h k) h1 h2 fun a => (c1 a.1 a.2).trans (c2 a.1 a.2).symm

theorem dist_room {L : List Rc} {k : Nat} {p : Rc} (hp : L[k]? = some p) (h : dist L ≤ 100) (h0 : cntR (L.take k) p.subj = 0) : dist (L.take k) ≤ 99 := by
  have hn : p.subj ∉ subjs (L.take k) := fun hm => by
    obtain ⟨r, h1, h2⟩ := mem_subjs.1 hm
    exact cnt_ne.2 ⟨r, h1, h2⟩ h0
  have h1 : (p.subj :: subjs (L.take k)).length ≤ (subjs L).length := nodup_le (List.nodup_cons.2 ⟨hn, nodup_subjs _⟩) fun x hx => by
    rcases List.mem_cons.1 hx with rfl | hx
    · exact mem_subjs.2 ⟨p, List.mem_of_getElem? hp, rfl⟩
    · obtain ⟨r, h1, h2⟩ := mem_subjs.1 hx
      exact mem_subjs.2 ⟨r, List.mem_of_mem_take h1, h2⟩
  unfold dist at h ⊢
  rw [List.length_cons] at h1
  omega

section
variable {W w : World} {C : Nat} {L : List Rc} {last : Int} {v : Value} {I : Ents}

/-- What is told of subjects. -/
def SubsPost (w : World) (L : List Rc) (f : List UInt8) (e : Ending) (w' : World) : Prop := ∃ J, SortedE J ∧ Counts J L ∧ FindPost (Subj.err true f) (findL J f) w e w'

set_option maxHeartbeats 8000000 in
set_option maxRecDepth 100000 in
theorem subs_ch (h : ChAt W C v L last w) (hR : Right L last I) (hds : dist L ≤ 100) (f : ByteArray) (hf : f.size ≤ 1048576) :
    Calls Tryd.prog 53 #[.pointer (some ⟨C, 0, none⟩), .string f] w (SubsPost w L f.data.toList) := by
  obtain ⟨n, hn⟩ : ∃ n, L.length = n := ⟨_, rfl⟩
  have hn200 : n ≤ 200 := by rw [← hn]; exact hR.few
  obtain ⟨va, vc, hv⟩ := h.row.slice
  rw [hn] at hv
  subst hv
  obtain ⟨w1, hw1⟩ : ∃ w1, w1 = w.alloc (.cells #[.slice none 0 0] 165) := ⟨_, rfl⟩
  have hb1 : Below w.heap.size w w1 := by rw [hw1]; exact (Below.refl _ _).alloc (Nat.le_refl _) _
  have hea : w1.heap[w.heap.size]? = some (.cells #[.slice none 0 0] 165 (0, 0)) := by rw [hw1]; exact heap_alloc_new w _
  obtain ⟨E, hE⟩ : ∃ E, w.heap.size = E := ⟨_, rfl⟩
  rw [hE] at hea
  have HS0 := Lib.hid (show ∃ G J, ShelfAt w G E J w1 ∧ SortedE J ∧ Counts J (L.take 0) from
    ⟨fun k => k = E, [], ⟨by simp, (fun _ h => by cases h), hb1, (fun k hk => by omega), (fun k hk => by have := heap_lt hea; omega), rfl, .slice none 0 0, hea, Row.nil _ _ _, fun k hk => by simp [own, Value.ownBlock] at hk⟩,
      List.Pairwise.nil, fun s m => by simp [cntR]⟩)
  have HC := Lib.hid h; have HN := Lib.hid hn; have HR := Lib.hid hR; have HE := Lib.hid hE; have HD := Lib.hid hds
  clear h hb1 hea hE hn hR hds
  go_enter Tryd.func53, Tryd.ntmps53
  go_upto_region 2 with fail
  rw [← hw1, HE.out]
  clear hw1
  go_wp2_with fail
  go_loopw [7] (fun i wr => ∃ k : Nat, k ≤ n ∧ i = .int .i64 k ∧ Hid (∃ G J, ShelfAt w G E J wr ∧ SortedE J ∧ Counts J (L.take k))) (fun i _ => n - (intOf i).toNat)
  case atStart => exact ⟨0, Nat.zero_le _, rfl, HS0⟩
  case round =>
    obtain ⟨k, hk, rfl, HS⟩ := hrel
    clear HS0
    obtain ⟨G, J, hS, hJ, hcJ⟩ := HS.out
    have HCr := Lib.hid (HC.out.next hS.below)
    obtain ⟨c0, c1, cf⟩ := twoC HCr.out.cell
    have hlt := heap_lt HCr.out.cell
    by_cases hlt2 : k < n
    · have hltz : (k : Int) < n := by omega
      obtain ⟨p, hp⟩ : ∃ p, L[k]? = some p := ⟨_, List.getElem?_eq_getElem (by rw [HN.out]; exact hlt2)⟩
      have hrow := HCr.out.row
      rw [HN.out] at hrow
      rcases hrow.2 with ⟨_, h0⟩ | ⟨g, off, cap, cur, ev, hgg, _⟩
      · omega
      simp only [Value.slice.injEq, true_and] at ev
      obtain ⟨rfl, rfl⟩ := ev
      obtain ⟨m0, m1, m2, m3, m4, m5⟩ := cells_rec hrow k p hp hlt2
      obtain ⟨s, hd, d, hpp⟩ := parts p
      rw [hpp.s1] at m3
      have hgp := HR.out.good p (List.mem_of_getElem? hp)
      obtain ⟨he, hl135, _⟩ := good_parts hgp.1 hgp.2
      have hs1 : s.size ≤ 1048576 := by rw [hpp.s3]; omega
      have hG := get_shf hS s hs1
      rw [hpp.s2, he, counts_get hJ hcJ] at hG
      obtain ⟨c, hc⟩ : ∃ c, cntR (L.take k) p.subj = c := ⟨_, rfl⟩
      have hfst : (if cntR (L.take k) p.subj = 0 then ((0 : Int), 4) else ((cntR (L.take k) p.subj : Int), 0)).1 = (c : Int) := by
        rw [hc]; split
        · rename_i h; rw [h]; rfl
        · rfl
      obtain ⟨g2, hg2⟩ : ∃ g2, (if cntR (L.take k) p.subj = 0 then ((0 : Int), 4) else ((cntR (L.take k) p.subj : Int), 0)).2 = g2 := ⟨_, rfl⟩
      rw [hfst, hg2] at hG
      have hcl : c ≤ 200 := by
        have h1 : cntR (L.take k) p.subj ≤ (L.take k).length := List.countP_le_length
        rw [List.length_take] at h1; omega
      have HG := Lib.hid hG
      have HROOM := Lib.hid (show cntR (L.take k) p.subj ≠ 0 ∨ J.length ≠ 100 from by
        by_cases h0 : cntR (L.take k) p.subj = 0
        · refine .inr ?_
          rw [counts_dist hJ hcJ]
          have := dist_room hp HD.out h0; omega
        · exact .inl h0)
      have HPP := Lib.hid hpp; have HPK := Lib.hid hp; have HSh := Lib.hid hS; have HJ := Lib.hid hJ; have HCJ := Lib.hid hcJ; have HEr := Lib.hid he; have HCc := Lib.hid hc
      clear hS hJ hcJ hp hrow hgg hpp hgp he hG hc hfst hg2 m0 m1 m2 m4 m5 HS
      go_wp2_with fail
      refine HG.out.mono ?_
      rintro e w2 ⟨rfl, hb2⟩
      have HSh2 := Lib.hid (HSh.out.next hb2)
      have HCr2 := Lib.hid (HC.out.next HSh2.out.below)
      obtain ⟨c0, c1, cf⟩ := twoC HCr2.out.cell
      have hlt := heap_lt HCr2.out.cell
      have hrow := HCr2.out.row
      rw [HN.out] at hrow
      obtain ⟨m0, m1, m2, m3, m4, m5⟩ := cells_rec hrow k p HPK.out hlt2
      rw [HPP.out.s1] at m3
      have hwr : IntKind.i64.wrap ((c : Int) + 1) = (c : Int) + 1 := IntWalk.i64_in _ (by omega)
      have hPU := put_shf HSh2.out s ((c : Int) + 1) hs1
      rw [HPP.out.s2, HEr.out] at hPU
      obtain ⟨pr, hpr⟩ : ∃ pr, (putL 0 J p.subj ((c : Int) + 1)).2 = pr := ⟨_, rfl⟩
      rw [hpr] at hPU
      have HPU := Lib.hid hPU
      clear hb2 hrow m0 m1 m2 m4 m5 hPU hpr HG
      go_wp2_with fail
      refine HPU.out.mono ?_
      rintro e w3 ⟨rfl, ⟨G3, hS3, _⟩, _⟩
      have HN3 := Lib.hid (show ∃ G J, ShelfAt w G E J w3 ∧ SortedE J ∧ Counts J (L.take (k + 1)) from
        ⟨G3, _, hS3, put_sorted HJ.out, by
          rw [take_snoc HPK.out]
          have := counts_add HJ.out HCJ.out p HROOM.out
          rwa [HCc.out] at this⟩)
      clear hS3 HPU
      go_wp2_with fail
      exact ⟨⟨k + 1, by omega, by go_num, HN3⟩, by simp [intOf]; omega⟩
    · have hltz : ¬ (k : Int) < n := by omega
      obtain rfl : k = n := by omega
      rw [List.take_of_length_le (by rw [HN.out]; exact Nat.le_refl _)] at hcJ
      have HFD := Lib.hid (find_shf hS f hf)
      have HJ := Lib.hid hJ; have HCJ := Lib.hid hcJ; have HSh := Lib.hid hS
      clear hS hJ hcJ HS
      go_wp2_with fail
      refine HFD.out.mono ?_
      rintro e w4 ⟨hb4, hcase⟩
      have hbw := HSh.out.below
      have hz := hbw.size
      obtain ⟨v, rfl, hfp⟩ : ∃ v, e = .returned (.tuple #[v, .int .i64 (Subj.err true f.data.toList : Nat)]) ∧ FindPost (Subj.err true f.data.toList) (findL J f.data.toList) w (.returned (.tuple #[v, .int .i64 (Subj.err true f.data.toList : Nat)])) w4 := by
        rcases hcase with ⟨h1, rfl⟩ | ⟨h0, v, rfl, h2, h3⟩
        · exact ⟨_, rfl, hbw.trans (hb4.mono hz), .inl ⟨h1, rfl⟩⟩
        · rw [h0]
          exact ⟨v, rfl, hbw.trans (hb4.mono hz), .inr ⟨rfl, v, rfl, h2, fun k hk => Nat.le_trans hz (h3 k hk)⟩⟩
      have HF := Lib.hid (show SubsPost w L f.data.toList (.returned (.tuple #[v, .int .i64 (Subj.err true f.data.toList : Nat)])) w4 from ⟨J, HJ.out, HCJ.out, hfp⟩)
      clear hb4 hcase hfp HFD hbw hz
      go_wp2_with fail
      go_ret2
      exact HF.out
end
end Go.Proofs.YthhingihjpkipaaDoor.Sto

namespace Go.Proofs.YthhingihjpkipaaDoor.Subj
open Go.RowKit

/-- What 'is' makes of an answer. -/
def isB (x : Bool × Nat) : Bool := x.2 == 0 && x.1

set_option maxRecDepth 100000 in
theorem is_match (f g : ByteArray) (w : World) (hf : f.size ≤ 1048576) (hg : g.size ≤ 1048576) (hm : ML w) :
    Calls Tryd.prog 22 #[.func (.func 23) #[] #[], .string f, .string g] w fun e w' => e = .returned (.bool (isB (matchR f.data.toList g.data.toList))) ∧ Below w.heap.size w w' := by
  have hc := match_any f g w hf hg hm
  obtain ⟨b, n, hr⟩ : ∃ b n, matchR f.data.toList g.data.toList = (b, n) := ⟨_, _, rfl⟩
  rw [hr] at hc ⊢
  unfold beV at hc
  have HC := Lib.hid hc; clear hc hr
  by_cases h0 : n = 0
  · subst h0
    go_enter Tryd.func22, Tryd.ntmps22
    go_wp2_with fail
    refine HC.out.mono ?_
    rintro e w' ⟨rfl, hb⟩
    go_wp2
    go_ret
    exact ⟨rfl, hb⟩
  · have h1 : ((n : Int) == 0) = false := by simp; omega
    have h2 : isB (b, n) = false := by unfold isB; simp [h0]
    rw [h2]
    clear h0 h2
    go_enter Tryd.func22, Tryd.ntmps22
    go_wp2_with fail
    refine HC.out.mono ?_
    rintro e w' ⟨rfl, hb⟩
    go_wp2
    go_ret
    exact ⟨rfl, hb⟩

end Go.Proofs.YthhingihjpkipaaDoor.Subj

namespace Go.Proofs.YthhingihjpkipaaDoor.Sto
open Go.RowKit Heap
open Subj (Tok ML pieces takes StrsAt isB matchR)
open Rec (Rc recErr far)
open Idx (Ents ptrV)

theorem isB_eq {f s : List UInt8} (h1 : Subj.err true f = 0) (h2 : Subj.err false s = 0) : isB (matchR f s) = takes (pieces f) (pieces s) := by
  unfold isB matchR
  rw [if_neg (by simp [h1]), if_neg (by simp [h2])]
  simp

def purgeR (q : Int) (f : List UInt8) : Rc := ⟨3, q, 0, f, [], []⟩

theorem pk1 (q : Int) (f : List UInt8) : ¬ (purgeR q f).kind = 1 := by show ¬ (3 : Int) = 1; decide
theorem pk2 (q : Int) (f : List UInt8) : ¬ (purgeR q f).kind = 2 := by show ¬ (3 : Int) = 2; decide
theorem pk3 (q : Int) (f : List UInt8) : (purgeR q f).kind = 3 := rfl

/-- What stays, as the law says it. -/
def wantP (e : Nat) (q : Int) (f : List UInt8) (x : Rc) : Bool := decide (e ≠ 0) || decide (q ≤ x.seq) || !isB (matchR f x.subj)

theorem try_purge (L : List Rc) (last q : Int) (f : List UInt8) : tryD L last (purgeR q f) = recErr (purgeR q f) := by
  unfold tryD
  by_cases h : recErr (purgeR q f) = 0
  · rw [if_neg (by simp [h]), if_neg (pk1 q f), if_neg (pk2 q f), h]
  · rw [if_pos h]

theorem purge_err {q : Int} {f : List UInt8} (h : recErr (purgeR q f) = 0) : Subj.err true f = 0 := by
  unfold recErr at h
  split at h
  · omega
  · rw [if_neg (pk1 q f), if_pos (pk3 q f)] at h
    split at h
    · exact h
    · rename_i h1
      exact Classical.not_not.1 h1

theorem want_after {L : List Rc} {last q : Int} {f : List UInt8} (hg : ∀ r ∈ L, recErr r = 0 ∧ r.kind = 1) :
    (after L last (purgeR q f)).1 = L.filter (wantP (tryD L last (purgeR q f)) q f) ∧ (after L last (purgeR q f)).2 = last := by
  unfold after
  by_cases h : tryD L last (purgeR q f) = 0
  · rw [if_pos h, h]
    rw [try_purge] at h
    have he := purge_err h
    refine ⟨?_, rfl⟩
    show leftS L (purgeR q f) = _
    unfold leftS
    rw [if_neg (pk1 q f), if_neg (pk2 q f), if_pos (pk3 q f)]
    refine List.filter_congr fun x hx => ?_
    have hs := (good_parts (hg x hx).1 (hg x hx).2).1
    unfold wantP
    rw [isB_eq he hs]
    show (!(decide (x.seq < q) && takes (pieces f) (pieces x.subj))) = _
    by_cases h2 : q ≤ x.seq
    · rw [decide_eq_true h2, decide_eq_false (show ¬ x.seq < q by omega)]; simp
    · rw [decide_eq_false h2, decide_eq_true (show x.seq < q by omega)]; simp
  · rw [if_neg h]
    refine ⟨?_, rfl⟩
    symm
    rw [List.filter_eq_self]
    intro x _
    unfold wantP
    rw [decide_eq_true h]; rfl

theorem want_step {P : Rc → Bool} {r : Rc} {L : List Rc} {j : Nat} (hj : L[j]? = some r) (B : Bool) (hB : P r = B) : (L.take (j + 1)).filter P = (L.take j).filter P ++ if B then [r] else [] := by
  subst hB
  rw [List.take_add_one, hj, List.filter_append]
  congr 1
  simp only [Option.toList, List.filter_cons, List.filter_nil]

theorem first_purge : (runS [noteR 4, noteR 7, purgeR 7 [62]]).1.length = 1 := by decide

/-- Records laid side by side by a literal. -/
theorem recs_new (w : World) (l : List Rc) : RecsAt (w.alloc (.cells (recsV l).toArray 29)) (.slice (some ⟨w.heap.size, 0, none⟩) l.length l.length) l := by
  refine ⟨_, l.length, rfl, fun _ => ⟨w.heap.size, 0, rfl, fun i p hp => ?_⟩⟩
  have e : ∀ j, j < 6 → (w.alloc (.cells (recsV l).toArray 29)).cell? ⟨w.heap.size, 0 + i * 6 + j, none⟩ = (recC p)[j]? := fun j hj => by
    rw [cell_of_row _ w.heap.size (0 + i * 6 + j) _ _ _ (heap_alloc_new w _), List.getElem?_toArray, Nat.zero_add, recsV_at l i p hp j hj]
  exact ⟨e 0 (by omega), e 1 (by omega), e 2 (by omega), e 3 (by omega), e 4 (by omega), e 5 (by omega)⟩

theorem fits_note (q : Int) : Fits (noteR q) := ⟨by show 3 ≤ 1048576; decide, by show 0 ≤ 1048576; decide, by show 1 ≤ 1048576; decide⟩
theorem fits_purge (q : Int) {f : List UInt8} (h : f.length ≤ 1048576) : Fits (purgeR q f) := ⟨h, by show 0 ≤ 1048576; decide, by show 0 ≤ 1048576; decide⟩

theorem fld0 : ∀ (w : World) (a b c d : Int), (Instr.field 96 (.agg #[.int .i64 a, .int .i64 b, .int .i64 c, .int .i64 d]) 0).run Tryd.prog w = .ok (.int .i64 a) w := fun _ _ _ _ _ => by kernel_rfl
theorem fld3 : ∀ (w : World) (a b c d : Int), (Instr.field 96 (.agg #[.int .i64 a, .int .i64 b, .int .i64 c, .int .i64 d]) 3).run Tryd.prog w = .ok (.int .i64 d) w := fun _ _ _ _ _ => by kernel_rfl

/-- What has been gathered so far. -/
def OutR (w wr : World) (o : Value) (K : List Rc) : Prop := Row wr 29 6 o K.length (recsV K) ∧ ∀ k, own o k → w.heap.size ≤ k

theorem OutR.next {w wr w' : World} {o : Value} {K : List Rc} (h : OutR w wr o K) (hb : Below wr.heap.size wr w') : OutR w w' o K := ⟨h.1.kept fun k _ hk => hb.block k hk, h.2⟩

section
variable {w : World}
end
end Go.Proofs.YthhingihjpkipaaDoor.Sto

namespace Go.Proofs.YthhingihjpkipaaDoor.Sto
open Go.RowKit Heap
open Subj (Tok ML pieces takes StrsAt isB matchR)
open Rec (Rc recErr far)
open Idx (Ents ptrV findL FindPost entV)
open Shf (SortedE find_x cells_pull)

theorem sums1 : (runS [noteR 4, noteR 7]).1.length = 2 := by decide
theorem sums2 : bytesR (runS [noteR 4, noteR 7]).1 = 8 := by decide
theorem sums3 : ((runS [noteR 4, noteR 7]).1.head?.map (·.seq)).getD 0 = 4 := by decide
theorem sums4 : (runS [noteR 4, noteR 7]).2 = 7 := by decide

theorem nodup_le_subjs : ∀ L : List Rc, (subjs L).length ≤ L.length
  | [] => Nat.le_refl _
  | a :: L => by
    have ih := nodup_le_subjs L
    unfold subjs
    split <;> simp <;> omega

theorem find_all (I : Ents) : findL I [62] = I := by
  unfold findL
  rw [List.filter_eq_self]
  intro x _
  rw [show pieces [62] = [[62]] from rfl, Idx.takes_gt]
  have := Subj.pieces_ne x.1
  cases h : pieces x.1 with
  | nil => exact absurd h this
  | cons a l => rfl

theorem sum_step {S : List Tok} (hn : S.Nodup) {s : Tok} (hs : s ∈ S) (f : Tok → Nat) : (S.map fun t => f t + if s = t then 1 else 0).sum = (S.map f).sum + 1 := by
  induction S with
  | nil => cases hs
  | cons a S ih =>
    simp only [List.map_cons, List.sum_cons]
    obtain ⟨h1, h2⟩ := List.nodup_cons.1 hn
    by_cases h : s = a
    · subst h
      have h3 : (S.map fun t => f t + if s = t then 1 else 0) = S.map f := by
        refine List.map_congr_left fun t ht => ?_
        rw [if_neg (show ¬ s = t from fun e => h1 (by rw [e]; exact ht))]; simp
      rw [h3]; simp; omega
    · have hs' : s ∈ S := by rcases List.mem_cons.1 hs with e | e; exact absurd e h; exact e
      rw [ih h2 hs', if_neg h]; omega

theorem zeros : ∀ S : List Tok, (S.map fun _ => (0 : Nat)).sum = 0
  | [] => rfl
  | a :: S => by simp only [List.map_cons, List.sum_cons, zeros S]

theorem sum_cnt : ∀ (L : List Rc) (S : List Tok), S.Nodup → (∀ r ∈ L, r.subj ∈ S) → (S.map (cntR L)).sum = L.length
  | [], S, _, _ => by
    have : S.map (cntR []) = S.map fun _ => 0 := List.map_congr_left fun t _ => rfl
    rw [this]
    exact zeros S
  | r :: L, S, hn, h => by
    have ih := sum_cnt L S hn fun x hx => h x (by simp [hx])
    have h2 : S.map (cntR (r :: L)) = S.map fun t => cntR L t + if r.subj = t then 1 else 0 := by
      refine List.map_congr_left fun t _ => ?_
      unfold cntR
      rw [List.countP_cons]
      by_cases e : r.subj = t <;> simp [e]
    rw [h2, sum_step hn (h r (by simp)) (cntR L), ih]
    simp

theorem counts_sum {I : Ents} {L : List Rc} (h : SortedE I) (hc : Counts I L) : (I.map (·.2)).sum = (L.length : Int) := by
  have h1 : I.map (·.2) = (I.map (·.1)).map fun s => (cntR L s : Int) := by
    rw [List.map_map]
    exact List.map_congr_left fun e he => ((hc e.1 e.2).1 he).1
  have h2 := sum_cnt L (I.map (·.1)) (sorted_nodup h) fun r hr => by
    rw [List.mem_map]
    exact ⟨(r.subj, cntR L r.subj), (hc _ _).2 ⟨rfl, cnt_ne.2 ⟨r, hr, rfl⟩⟩, rfl⟩
  rw [h1, ← h2]
  generalize I.map (·.1) = S
  induction S with
  | nil => rfl
  | cons a S ih => simp only [List.map_cons, List.sum_cons, ih]; omega

theorem sum_take {I : Ents} {L : List Rc} (hc : Counts I L) (hl : L.length ≤ 200) (k : Nat) : 0 ≤ ((I.take k).map (·.2)).sum ∧ ((I.take k).map (·.2)).sum ≤ 200 * (k : Int) := by
  have h : ∀ e ∈ I, 0 ≤ e.2 ∧ e.2 ≤ 200 := fun e he => by
    have h1 := ((hc e.1 e.2).1 he).1
    have h2 : cntR L e.1 ≤ L.length := List.countP_le_length
    omega
  clear hc
  induction I generalizing k with
  | nil => simp; omega
  | cons a I ih =>
    cases k with
    | zero => simp
    | succ k =>
      have h1 := h a (by simp)
      have h2 := ih k fun e he => h e (by simp [he])
      simp only [List.take_succ_cons, List.map_cons, List.sum_cons]
      omega

theorem take_sum {I : Ents} {k : Nat} {p : Tok × Int} (h : I[k]? = some p) : ((I.take (k + 1)).map (·.2)).sum = ((I.take k).map (·.2)).sum + p.2 := by
  rw [List.take_add_one, h]
  simp

section
variable {W w : World} {F : Nat → Prop} {D B : Nat} {L : List Rc} {last : Int}

theorem subjects_any (hA : StoreAt W F D B L last w) (hB : B ≤ 80000) (hm : ML W) (f : ByteArray) (hf : f.size ≤ 1048576) : ∃ I, Right L last I ∧
    Calls Tryd.prog 52 #[.pointer (some ⟨D, 0, none⟩), .string f] w (FindPost (Subj.err true f.data.toList) (findL I f.data.toList) w) := by
  obtain ⟨M, x, N, I, v, h, hR, hN, _⟩ := hA.ex
  refine ⟨I, hR, ?_⟩
  obtain ⟨c0, c1, c2, c3, cf⟩ := fourS h.cell
  have hlt := h.lt
  have HC := Lib.hid (find_x h.idx (by omega) hm f hf)
  generalize Subj.err true f.data.toList = er at *
  generalize findL I f.data.toList = FL at *
  clear hA h hR hN hB
  go_enter Tryd.func52, Tryd.ntmps52
  go_wp2_with fail
  refine HC.out.mono ?_
  rintro e w' ⟨hb, hcase⟩
  obtain ⟨v, rfl, hfp⟩ : ∃ v, e = .returned (.tuple #[v, .int .i64 er]) ∧ FindPost er FL w (.returned (.tuple #[v, .int .i64 er])) w' := by
    rcases hcase with ⟨h1, rfl⟩ | ⟨rfl, v, rfl, h2, h3⟩
    · exact ⟨_, rfl, hb, .inl ⟨h1, rfl⟩⟩
    · exact ⟨v, rfl, hb, .inr ⟨rfl, v, rfl, h2, h3⟩⟩
  have HF := Lib.hid hfp
  clear hb hcase hfp HC
  go_wp2
  go_ret2
  exact HF.out
end

section
variable {w : World}
end
end Go.Proofs.YthhingihjpkipaaDoor.Sto
