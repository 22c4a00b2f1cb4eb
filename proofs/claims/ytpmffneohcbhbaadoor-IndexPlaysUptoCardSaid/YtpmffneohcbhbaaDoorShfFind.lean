/- (*rillref.Shelf).Find, walked; two slices of entries compared (slices.Equal). -/
import Derived.Test.YtpmffneohcbhbaaDoorShfBef
import Derived.Test.YtpmffneohcbhbaaDoorShfIns
import Derived.Test.YtpmffneohcbhbaaDoorRefTakes1
import Derived.Laws.StructEq
namespace Go.Proofs.YtpmffneohcbhbaaDoor.Shf
open Go.RowKit Heap Idx
open Subj (Tok ML pieces takes)

theorem findL_step {A : Ents} {k : Nat} {p : Tok × Int} (hp : A[k]? = some p) (t : Tok) (B : Bool) (hB : takes (pieces t) (pieces p.1) = B) : findL (A.take (k + 1)) t = findL (A.take k) t ++ if B then [p] else [] := by
  subst hB
  unfold findL
  rw [List.take_add_one, hp, List.filter_append]
  congr 1
  simp only [Option.toList, List.filter_cons, List.filter_nil]

/-- What has been found so far. -/
def OutE (w wr : World) (o : Value) (L : Ents) : Prop := Row wr 40 2 o L.length (entV L) ∧ ∀ k, own o k → w.heap.size ≤ k

section
variable {W w : World} {G : Nat → Prop} {E : Nat} {A : Ents}

theorem OutE.next {w wr w' : World} {o : Value} {L : Ents} (h : OutE w wr o L) (hb : Below wr.heap.size wr w') : OutE w w' o L := ⟨h.1.kept fun k _ hk => hb.block k hk, h.2⟩

set_option maxHeartbeats 4000000 in
set_option maxRecDepth 100000 in
theorem find_shf (h : ShelfAt W G E A w) (f : ByteArray) (hf : f.size ≤ 1048576) :
    Calls Tryd.prog 18 #[.pointer (some ⟨E, 0, none⟩), .string f] w (FindPost (Subj.err true f.data.toList) (findL A f.data.toList) w) := by
  have HSU := Lib.hid (Subj.refFilter_any f w hf)
  have HTK := Lib.hid (fun s w1 hs => Subj.takesS_ref f s w1 hf hs)
  have HH := Lib.hid h
  generalize Subj.err true f.data.toList = er at *
  generalize f.data.toList = t at *
  by_cases he : er = 0
  · subst he
    obtain ⟨m, hm⟩ : ∃ m, A.length = m := ⟨_, rfl⟩
    have hfew : m ≤ 100 := by rw [← hm]; exact h.few
    have HN := Lib.hid hm
    obtain ⟨i0, hi, hz0, hz1, hz2⟩ := info_parts Shf.Ins.info_el
    clear h hf hm
    go_enter Tryd.func18, Tryd.ntmps18
    go_wp2_with fail
    refine HSU.out.mono ?_
    rintro e w1 ⟨rfl, hb1⟩
    have HB1 := Lib.hid hb1
    clear hb1 HSU
    go_wp2_with fail
    go_loopw [7, 8] (fun o i wr => ∃ k : Nat, k ≤ m ∧ i = .int .i64 k ∧ Hid (Below w.heap.size w wr) ∧ Hid (OutE w wr o (findL (A.take k) t))) (fun _ i _ => m - (intOf i).toNat)
    case atStart => exact ⟨0, Nat.zero_le _, rfl, HB1, Lib.hid ⟨Row.nil _ _ _, fun k hk => by simp [own, Value.ownBlock] at hk⟩⟩
    case round =>
      obtain ⟨k, hk, rfl, HW, HO⟩ := hrel
      obtain ⟨v, h1, h2, h3⟩ := (HH.out.next HW.out).mem
      obtain ⟨c0, cf⟩ := oneC h1
      have hEl := heap_lt h1
      rw [HN.out] at h2
      by_cases hlt : k < m
      · have hltz : (k : Int) < m := by omega
        obtain ⟨p, hp⟩ : ∃ p, A[k]? = some p := ⟨_, List.getElem?_eq_getElem (by rw [HN.out]; exact hlt)⟩
        have hpsz : (⟨p.1.toArray⟩ : ByteArray).size ≤ 1048576 := by
          have := HH.out.short p (List.mem_of_getElem? hp)
          show p.1.toArray.size ≤ _
          rw [List.size_toArray]; omega
        have htk := fun w1 => HTK.out ⟨p.1.toArray⟩ w1 hpsz
        simp only [List.toList_toArray] at htk
        obtain ⟨B, hB⟩ : ∃ B, takes (pieces t) (pieces p.1) = B := ⟨_, rfl⟩
        rw [hB] at htk
        have HTK1 := Lib.hid htk; have HP := Lib.hid hp
        have hst := findL_step hp t B hB
        have HST := Lib.hid hst
        rcases h2.2 with ⟨_, h0⟩ | ⟨g, off, cap, cur, rfl, _⟩
        · omega
        obtain ⟨d0, d1⟩ := cells_pull h2 k p hp hlt
        clear h1 h2 h3 hp hpsz htk hB hst d1
        go_wp2_with fail
        refine (HTK1.out _).mono ?_
        rintro e w3 ⟨rfl, hb3⟩
        have HW3 := Lib.hid (HW.out.trans (hb3.mono HW.out.size))
        have HO3 := Lib.hid (HO.out.next hb3)
        clear hb3 HTK1 c0 cf hEl d0 HW HO
        cases B with
        | false =>
          clear HP
          go_wp2_with fail
          exact ⟨⟨k + 1, by omega, by go_num, HW3, Lib.hid (by rw [HST.out]; simpa using HO3.out)⟩, by simp [intOf]; omega⟩
        | true =>
          obtain ⟨v, h1, h2, h3⟩ := (HH.out.next HW3.out).mem
          obtain ⟨c0, cf⟩ := oneC h1
          have hEl := heap_lt h1
          rw [HN.out] at h2
          rcases h2.2 with ⟨_, h0⟩ | ⟨g, off, cap, cur, rfl, _⟩
          · omega
          obtain ⟨d0, d1⟩ := cells_pull h2 k p HP.out hlt
          obtain ⟨S, hS⟩ : ∃ S : ByteArray, (⟨p.1.toArray⟩ : ByteArray) = S := ⟨_, rfl⟩
          obtain ⟨nn, hnn⟩ : ∃ nn : Int, p.2 = nn := ⟨_, rfl⟩
          have hel : entV [p] = [.string S, .int .i64 nn] := by rw [← hS, ← hnn]; rfl
          rw [hS] at d0
          rw [hnn] at d1
          have hfl : (findL (A.take k) t).length ≤ 100 := by
            have h5 := List.length_filter_le (fun y : Tok × Int => takes (pieces t) (pieces y.1)) (A.take k)
            have h6 : (A.take k).length ≤ 100 := by rw [List.length_take, HN.out]; omega
            unfold findL; omega
          obtain ⟨FL, hFL⟩ : ∃ FL, findL (A.take k) t = FL := ⟨_, rfl⟩
          rw [hFL] at HO3 HST hfl
          have hr1 : Row (w3.alloc (.cells #[.string S, .int .i64 nn] 40)) 40 2 u7 FL.length (entV FL) := HO3.out.1.kept fun k _ hk => Below.heap_alloc _ _ _ hk
          have hnews : ∀ j u, ([.string S, .int .i64 nn] : List Value)[j]? = some u → (w3.alloc (.cells #[.string S, .int .i64 nn] 40)).cell? ((⟨w3.heap.size, 0, none⟩ : Addr).add j) = some u := fun j u hj => by
            rw [Addr.add_lit, cell_of_row _ w3.heap.size (0 + j) _ _ _ (heap_alloc_new w3 _), Nat.zero_add]
            rcases j with _ | _ | j
            · simpa using hj
            · simpa using hj
            · simp at hj
          have hone : ∀ u ∈ ([.string S, .int .i64 nn] : List Value), u.oneCell' = true := by
            intro u hu
            simp only [List.mem_cons, List.not_mem_nil, or_false] at hu
            rcases hu with rfl | rfl <;> rfl
          have HR := Lib.hid hr1; have HNW := Lib.hid hnews; have HON := Lib.hid hone; have HEL := Lib.hid hel
          clear h1 h2 h3 hr1 hnews hone hel hS hnn hFL HP
          go_wp2_with (at_builtin; refine Heap.wpList_append_row _ rfl (.tmp 33) (.tmp 41) 26 rfl 40 i0 _ 2 24 Tryd.underlying26 hi hz0 hz1 hz2 rfl (by decide) _ FL.length _ rfl HR.out ⟨w3.heap.size, 0, none⟩ 1 1 [.string S, .int .i64 nn] rfl rfl HNW.out HON.out (by unfold maxLen; omega) (by omega) ?_)
          intro v2 w4 r4 t4 o4
          have HF := Lib.hid (show Below w.heap.size w w4 ∧ OutE w w4 v2 (FL ++ [p]) from by
            have hb3 : Below w.heap.size w (w3.alloc (.cells #[.string S, .int .i64 nn] 40)) := HW3.out.alloc HW3.out.size _
            refine ⟨hb3.trans (t4.below hb3.size fun k hk => HO3.out.2 k hk), ?_, fun k hk => ?_⟩
            · rw [List.length_append, entV_append, HEL.out]; exact r4
            · rcases o4 k hk with h | h
              · exact HO3.out.2 k h
              · have h9 := HW3.out.size; omega)
          clear r4 t4 o4 HR HNW HON c0 cf hEl d0 d1 HO3 HW3
          go_wp2_with fail
          exact ⟨⟨k + 1, by omega, by go_num, Lib.hid HF.out.1, Lib.hid (by rw [HST.out]; exact HF.out.2)⟩, by simp [intOf]; omega⟩
      · have hltz : ¬ (k : Int) < m := by omega
        obtain rfl : k = m := by omega
        obtain ⟨va, vc, rfl⟩ := h2.slice
        have HF := Lib.hid (show FindPost 0 (findL A t) w (.returned (.tuple #[u7, .int .i64 0])) wr from by
          have h5 := HO.out
          rw [List.take_of_length_le (by rw [HN.out]; exact Nat.le_refl _)] at h5
          exact ⟨HW.out, .inr ⟨rfl, u7, rfl, h5.1, h5.2⟩⟩)
        clear h1 h2 h3 HO
        go_wp2_with fail
        go_ret2
        exact HF.out
  · have he0 : ((er : Int) != 0) = true := by simpa using he
    have HE := Lib.hid he
    clear h hf he
    go_enter Tryd.func18, Tryd.ntmps18
    go_wp2_with fail
    refine HSU.out.mono ?_
    rintro e w1 ⟨rfl, hb1⟩
    have HB1 := Lib.hid hb1
    clear hb1 HSU
    go_wp2_with fail
    go_ret2
    exact ⟨HB1.out, .inl ⟨HE.out, rfl⟩⟩

set_option maxHeartbeats 2000000 in
set_option maxRecDepth 100000 in
theorem equal_ents {v1 v2 : Value} {l : Ents} (h1 : Row w 40 2 v1 l.length (entV l)) (h2 : Row w 40 2 v2 l.length (entV l)) (hl : l.length ≤ 100000) :
    Calls Tryd.prog 19 #[v1, v2] w fun e w' => e = .returned (.bool true) ∧ ∃ q, w' = w.drewN q := by
  obtain ⟨n, hn⟩ : ∃ n, l.length = n := ⟨_, rfl⟩
  rw [hn] at h1 h2 hl
  obtain ⟨a1, c1, rfl⟩ := h1.slice
  obtain ⟨a2, c2, rfl⟩ := h2.slice
  have H1 := Lib.hid h1; have H2 := Lib.hid h2; have HN := Lib.hid hn
  clear h1 h2 hn
  go_enter Tryd.func19, Tryd.ntmps19
  go_wp2_with fail
  go_loopw [13] (fun i wr => ∃ k : Nat, k ≤ n ∧ i = .int .i64 k ∧ ∃ q, wr = w.drewN q) (fun i _ => n - (intOf i).toNat)
  case atStart => exact ⟨0, Nat.zero_le _, rfl, 0, rfl⟩
  case round =>
    obtain ⟨k, hk, rfl, q, rfl⟩ := hrel
    by_cases hlt : k < n
    · have hltz : (k : Int) < n := by omega
      obtain ⟨p, hp⟩ : ∃ p, l[k]? = some p := ⟨_, List.getElem?_eq_getElem (by rw [HN.out]; exact hlt)⟩
      have x1 := H1.out
      have x2 := H2.out
      rcases x1.2 with ⟨_, h0⟩ | ⟨g1, o1, cc1, cur1, e1, _⟩
      · omega
      rcases x2.2 with ⟨_, h0⟩ | ⟨g2, o2, cc2, cur2, e2, _⟩
      · omega
      simp only [Value.slice.injEq, true_and] at e1 e2
      obtain ⟨rfl, rfl⟩ := e1
      obtain ⟨rfl, rfl⟩ := e2
      obtain ⟨d0, d1⟩ := cells_pull x1 k p hp hlt
      obtain ⟨y0, y1⟩ := cells_pull x2 k p hp hlt
      generalize (⟨p.1.toArray⟩ : ByteArray) = S at d0 y0
      generalize p.2 = nn at d1 y1
      clear hp x1 x2
      go_wp2_with fail
      go_quiet (fail)
      go_wp2_with fail
      exact ⟨⟨k + 1, by omega, by go_num, _, rfl⟩, by simp [intOf]; omega⟩
    · have hltz : ¬ (k : Int) < n := by omega
      go_wp2_with fail
      go_ret
      exact ⟨rfl, _, rfl⟩
end
end Go.Proofs.YtpmffneohcbhbaaDoor.Shf
