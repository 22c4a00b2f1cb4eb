/- shown and the law SubjectShows, walked. -/
import Derived.Test.YtglgbidcmkncgaaDoorShowPlain
import Derived.Test.YtglgbidcmkncgaaDoorRecPlain
import Derived.Lib.Join
namespace Go.Proofs.YtglgbidcmkncgaaDoor.Subj
open Go.RowKit

theorem joined_join : ∀ L : List Tok, joined L = Lib.join L [46]
  | [] => rfl
  | [t] => (Lib.join_one t [46]).symm
  | t :: u :: L => by
    show t ++ 46 :: joined (u :: L) = _
    rw [joined_join (u :: L)]
    simp [Lib.join, List.intercalate, List.intersperse]

theorem shown_err {f g : List UInt8} (h : isO f g = true) : err false (joined (shownR (pieces f) (pieces g))) = 0 := by
  have := (shown_isM h).1
  unfold isM at this
  simp only [Bool.and_eq_true, beq_iff_eq] at this
  exact this.1.2

/-- What a filter's token at a place is for shown. -/
theorem tk_cases {wild : Bool} {A : List Tok} (ok : okPieces wild A = true) (k : Nat) :
    (¬ k < A.length ∧ tk A k = []) ∨
    (k < A.length ∧ ∃ S : ByteArray, strAt A k = S ∧ (S.toList == [42]) = true ∧ tk A k = []) ∨
    (k < A.length ∧ ∃ S : ByteArray, strAt A k = S ∧ (S.toList == [42]) = false ∧ (S.toList == [62]) = true ∧ tk A k = []) ∨
    (k < A.length ∧ ∃ S : ByteArray, strAt A k = S ∧ (S.toList == [42]) = false ∧ (S.toList == [62]) = false ∧ S.toList.isEmpty = false ∧ S.data.toList = tk A k ∧ tk A k ≠ []) := by
  by_cases hk : k < A.length
  · have hok := (okPieces_iff wild A).1 ok k hk
    have htk : tk A k = bare (A.getD k []) := by unfold tk; rw [if_pos hk]
    by_cases h1 : A.getD k [] = [42]
    · exact .inr (.inl ⟨hk, _, rfl, by rw [strAt_toList, h1]; rfl, by rw [htk, h1]; rfl⟩)
    · by_cases h2 : A.getD k [] = [62]
      · exact .inr (.inr (.inl ⟨hk, _, rfl, by rw [strAt_toList, h2]; rfl, by rw [strAt_toList, h2]; rfl, by rw [htk, h2]; rfl⟩))
      · have ht : tokenOk (A.getD k []) = true := by
          unfold okAt at hok
          have h1' := h1; have h2' := h2
          simp only [List.getD_eq_getElem?_getD] at h1' h2' hok ⊢
          simpa [h1', h2'] using hok
        have hne := token_ne ht
        have hb : bare (A.getD k []) = A.getD k [] := by
          have h1' := h1; have h2' := h2
          simp only [List.getD_eq_getElem?_getD] at h1' h2' ⊢
          simp [bare, h1', h2']
        refine .inr (.inr (.inr ⟨hk, _, rfl, ?_, ?_, ?_, ?_, ?_⟩))
        · rw [strAt_toList]; simpa using h1
        · rw [strAt_toList]; simpa using h2
        · rw [strAt_toList]; simpa using hne
        · rw [strAt_list, htk, hb]
        · rw [htk, hb]; exact hne
  · exact .inl ⟨hk, by unfold tk; rw [if_neg hk]⟩

theorem info_string : (Tryd.prog.info? 9).map (fun i => (i.zero, i.size, i.bytes)) = some (some (.string ⟨#[]⟩), 1, 16) := by kernel_rfl

def strsV (L : List Tok) : List Value := L.map fun t => .string ⟨t.toArray⟩

theorem strsV_snoc {L : List Tok} {k : Nat} {t : Tok} {S : ByteArray} (h : L[k]? = some t) (hS : S.data.toList = t) : strsV (L.take (k + 1)) = strsV (L.take k) ++ [.string S] := by
  obtain ⟨hk, e⟩ := List.getElem?_eq_some_iff.1 h
  rw [List.take_succ_eq_append_getElem hk, strsV, List.map_append, e]
  subst hS
  rfl

theorem strsV_at (L : List Tok) (i : Nat) : (strsV L)[i]? = (L[i]?).map fun t => .string ⟨t.toArray⟩ := by
  simp [strsV]

/-- Texts joined by dots, out of a row of one's own. -/
theorem join_row (L : List Tok) {W : World} {base n : Nat} {v : Value} (h : W.ownsRow base 9 1 v n (strsV L)) (hn : L.length ≤ 1000) (hl : (joined L).length ≤ 140737488355328) :
    Calls Tryd.prog 53 #[v, .string ⟨#[46]⟩] W fun e w' => e = .returned (.string ⟨(joined L).toArray⟩) ∧ Below W.heap.size W w' := by
  have hle : L.length = n := by have := h.1; simpa [strsV] using this
  subst hle
  have h0 := h
  rcases h.2 with ⟨rfl, e⟩ | ⟨g, cap, cur, rfl, hb, hg, hc, _⟩
  · have : L = [] := List.eq_nil_of_length_eq_zero e
    subst this
    refine (Tryd.strings_Join_none none 0 ⟨#[46]⟩ W).mono ?_
    rintro e w' ⟨rfl, rfl⟩
    exact ⟨rfl, Below.refl _ _⟩
  · have hm : (L.map fun t : Tok => (⟨t.toArray⟩ : ByteArray)).map (·.data.toList) = L := by simp [List.map_map, Function.comp_def]
    have := Tryd.strings_Join g 0 cap (L.map fun t : Tok => (⟨t.toArray⟩ : ByteArray)) ⟨#[46]⟩ W (fun j x hj => by
        have hjl : j < L.length := by
          have := (List.getElem?_eq_some_iff.1 hj).1
          simpa using this
        rw [Nat.zero_add, h0.cellAt j (by omega), strsV_at]
        rw [List.getElem?_map] at hj
        cases hL : L[j]? with
        | none => rw [hL] at hj; exact absurd hj (by simp)
        | some t => rw [hL] at hj; simp at hj; simp [hj])
      (Array.getElem?_eq_some_iff.1 hg).1 (by simp; omega) (by simpa using hc) (by rw [hm]; have := hl; rw [joined_join] at this; exact this)
    rw [hm, List.length_map, show (⟨#[46]⟩ : ByteArray).data.toList = [46] from rfl, ← joined_join] at this
    exact this

set_option maxHeartbeats 4000000 in
set_option maxRecDepth 100000 in
theorem shown_any (f g : ByteArray) (w : World) (hf : f.size ≤ 1048576) (hg : g.size ≤ 1048576) (hm : ML w) (ho : isO f.data.toList g.data.toList = true) :
    Calls Tryd.prog 15 #[.string f, .string g] w fun e w' => e = .returned (.string ⟨(joined (shownR (pieces f.data.toList) (pieces g.data.toList))).toArray⟩) ∧ Below w.heap.size w w' := by
  have hel := Rec.err_len (shown_err ho)
  unfold isO at ho
  simp only [Bool.and_eq_true, beq_iff_eq] at ho
  obtain ⟨⟨ho1, ho2⟩, _⟩ := ho
  obtain ⟨l1, o1⟩ := (err_zero true _).1 ho1
  obtain ⟨l2, o2⟩ := (err_zero true _).1 ho2
  clear ho1 ho2
  obtain ⟨i0, hi, hz0, hz1, hz2⟩ := info_parts info_string
  obtain ⟨m, hm⟩ := hm
  have hc := Tryd.strings_Split f ⟨#[46]⟩ m w (by omega) hm (by decide)
  rw [countB_dot] at hc
  have hst := strsAt_made w f 9
  have hb := (Below.refl w.heap.size w).alloc (Nat.le_refl _) (.cells ((Lib.splitB ⟨#[46]⟩ 0 (Lib.countB f ⟨#[46]⟩) f).map Value.string).toArray 9)
  have hsz : (w.alloc (.cells ((Lib.splitB ⟨#[46]⟩ 0 (Lib.countB f ⟨#[46]⟩) f).map Value.string).toArray 9)).heap.size = w.heap.size + 1 := by simp
  generalize w.alloc (.cells ((Lib.splitB ⟨#[46]⟩ 0 (Lib.countB f ⟨#[46]⟩) f).map Value.string).toArray 9) = W1 at *
  have hm1 : ML W1 := ML.below ⟨m, hm⟩ hb
  obtain ⟨m1, hm1⟩ := hm1
  have hc2 := Tryd.strings_Split g ⟨#[46]⟩ m1 W1 (by omega) hm1 (by decide)
  rw [countB_dot] at hc2
  have hst2 := strsAt_made W1 g 9
  have hb2 := (Below.refl W1.heap.size W1).alloc (Nat.le_refl _) (.cells ((Lib.splitB ⟨#[46]⟩ 0 (Lib.countB g ⟨#[46]⟩) g).map Value.string).toArray 9)
  have hsz2 : (W1.alloc (.cells ((Lib.splitB ⟨#[46]⟩ 0 (Lib.countB g ⟨#[46]⟩) g).map Value.string).toArray 9)).heap.size = W1.heap.size + 1 := by simp
  generalize W1.alloc (.cells ((Lib.splitB ⟨#[46]⟩ 0 (Lib.countB g ⟨#[46]⟩) g).map Value.string).toArray 9) = W2 at *
  have hst1 := hst.below hb2
  have hbb := hb.trans (hb2.mono hb.size)
  rw [hsz] at hst2 hsz2 hc2
  generalize pieces f.data.toList = A at *
  generalize pieces g.data.toList = B at *
  obtain ⟨nA, hnA⟩ : ∃ n, A.length = n := ⟨_, rfl⟩
  obtain ⟨nB, hnB⟩ : ∃ n, B.length = n := ⟨_, rfl⟩
  have hlen := shownR_len A B
  have hget := shownR_get A B
  have hj := joined_join (shownR A B)
  generalize hL : shownR A B = L at *
  rw [hnA] at hc l1; rw [hnB] at hc2 l2
  rw [hnA, hnB] at hlen hget
  have HC := Lib.hid hc; have HC2 := Lib.hid hc2; have HS1 := Lib.hid hst1; have HS2 := Lib.hid hst2
  have HB := Lib.hid hbb; have HG := Lib.hid hget; have HJ := Lib.hid hj; have HL := Lib.hid hlen
  have HNA := Lib.hid hnA; have HNB := Lib.hid hnB; have HZ := Lib.hid hsz2; have HEL := Lib.hid hel
  clear hc hc2 hst hst1 hst2 hb hb2 hbb hget hj hlen hnA hnB hsz hsz2 hm hm1 hel hL
  go_enter Tryd.func15, Tryd.ntmps15
  go_wp2_with fail
  refine HC.out.mono ?_
  rintro e w' ⟨rfl, rfl⟩
  go_wp2_with fail
  refine HC2.out.mono ?_
  rintro e W2 ⟨rfl, rfl⟩
  clear HC HC2
  have hown0 : W2.ownsRow W2.heap.size 9 1 (.slice none 0 0) 0 [] := World.ownsRow_nil _ _ _ _
  go_wp2_with fail
  go_loopw [7, 8] (fun v i wr => ∃ k : Nat, k ≤ max nA nB ∧ i = .int .i64 k ∧ Hid (wr.ownsRow W2.heap.size 9 1 v k (strsV (L.take k))) ∧ Below W2.heap.size W2 wr) (fun _ i _ => max nA nB - (intOf i).toNat)
  case atStart => exact ⟨0, Nat.zero_le _, rfl, hown0, Below.refl _ _⟩
  case round =>
    obtain ⟨k, hk, rfl, H, hb⟩ := hrel
    have hown := H.out
    have hbs := hb.size
    have hzz := HZ.out
    have c1 : k < nA → wr.cell? ⟨w.heap.size, k, none⟩ = some (.string (strAt A k)) := fun h => by
      rw [hb.cell (by show w.heap.size < _; omega)]
      have := HS1.out k (by rw [HNA.out]; exact h)
      rwa [Nat.zero_add] at this
    have c2 : k < nB → wr.cell? ⟨w.heap.size + 1, k, none⟩ = some (.string (strAt B k)) := fun h => by
      rw [hb.cell (by show w.heap.size + 1 < _; omega)]
      have := HS2.out k (by rw [HNB.out]; exact h)
      rwa [Nat.zero_add] at this
    clear hzz
    by_cases hend : k < max nA nB
    · have hgk := HG.out k hend
      have ca := tk_cases o1 k
      have cb := tk_cases o2 k
      rw [HNA.out] at ca
      rw [HNB.out] at cb
      have C1 := Lib.hid c1; have C2 := Lib.hid c2; have HGK := Lib.hid hgk; have HOW := Lib.hid hown
      have HBS := Lib.hid hbs
      clear c1 c2 hgk hown hbs o1 o2
      rcases ca with ⟨na, ta⟩ | ⟨na, S1, e1, x1, ta⟩ | ⟨na, S1, e1, x1, x2, ta⟩ | ⟨na, S1, e1, x1, x2, x3, d1, ta⟩
      · rcases cb with ⟨nb, tb⟩ | ⟨nb, S2, e2, y1, tb⟩ | ⟨nb, S2, e2, y1, y2, tb⟩ | ⟨nb, S2, e2, y1, y2, y3, d2, tb⟩
        · omega
        · have hp : pick (tk A k) (tk B k) = [120] := by rw [ta, tb]; rfl
          have hsn : strsV (L.take (k + 1)) = strsV (L.take k) ++ [.string (⟨#[120]⟩ : ByteArray)] := strsV_snoc (HGK.out.trans (by rw [hp])) rfl
          have HSN := Lib.hid hsn; clear hsn hp
          have c2 := C2.out nb; rw [e2] at c2; clear e2
          clear ta tb
          have hown := HOW.out
          have hbs := HBS.out
          go_wp2_with (at_builtin; refine wpList_append_own _ rfl (.tmp 61) (.tmp 62) 27 rfl (W2.heap.size) 9 i0 (.string ⟨#[]⟩) 1 16 Tryd.underlying27 hi hz0 hz1 hz2 rfl (by decide) _ _ _ rfl (hown.alloc _) ⟨wr.heap.size, 0, none⟩ 1 1 [.string ⟨#[120]⟩] rfl rfl (cell_one_new _ _ _) (by simp [Value.oneCell']) (by unfold maxLen; omega) (by omega) (by simp; omega) ?_)
          intro v' w1 hown1 hgrow hne
          have hbw : Below W2.heap.size W2 w1 := (hb.alloc hbs _).grown hgrow (by simp; omega) (fun k hk => (hown.lt k hk).1)
          rw [← HSN.out] at hown1
          have HO1 := Lib.hid hown1; have HBW := Lib.hid hbw
          clear hown1 hbw hgrow hne hown hbs
          go_wp2_with fail
          exact ⟨⟨k + 1, by omega, by go_num, HO1, HBW.out⟩, by simp [intOf]; omega⟩
        · have hp : pick (tk A k) (tk B k) = [120] := by rw [ta, tb]; rfl
          have hsn : strsV (L.take (k + 1)) = strsV (L.take k) ++ [.string (⟨#[120]⟩ : ByteArray)] := strsV_snoc (HGK.out.trans (by rw [hp])) rfl
          have HSN := Lib.hid hsn; clear hsn hp
          have c2 := C2.out nb; rw [e2] at c2; clear e2
          clear ta tb
          have hown := HOW.out
          have hbs := HBS.out
          go_wp2_with (at_builtin; refine wpList_append_own _ rfl (.tmp 61) (.tmp 62) 27 rfl (W2.heap.size) 9 i0 (.string ⟨#[]⟩) 1 16 Tryd.underlying27 hi hz0 hz1 hz2 rfl (by decide) _ _ _ rfl (hown.alloc _) ⟨wr.heap.size, 0, none⟩ 1 1 [.string ⟨#[120]⟩] rfl rfl (cell_one_new _ _ _) (by simp [Value.oneCell']) (by unfold maxLen; omega) (by omega) (by simp; omega) ?_)
          intro v' w1 hown1 hgrow hne
          have hbw : Below W2.heap.size W2 w1 := (hb.alloc hbs _).grown hgrow (by simp; omega) (fun k hk => (hown.lt k hk).1)
          rw [← HSN.out] at hown1
          have HO1 := Lib.hid hown1; have HBW := Lib.hid hbw
          clear hown1 hbw hgrow hne hown hbs
          go_wp2_with fail
          exact ⟨⟨k + 1, by omega, by go_num, HO1, HBW.out⟩, by simp [intOf]; omega⟩
        · have hp : pick (tk A k) (tk B k) = tk B k := by rw [ta, pick, if_neg (by simp), if_pos tb]
          have hsn : strsV (L.take (k + 1)) = strsV (L.take k) ++ [.string S2] := strsV_snoc (HGK.out.trans (by rw [hp])) d2
          have HSN := Lib.hid hsn; clear hsn hp
          have c2 := C2.out nb; rw [e2] at c2; clear e2
          clear ta tb d2
          have hown := HOW.out
          have hbs := HBS.out
          go_wp2_with (at_builtin; refine wpList_append_own _ rfl (.tmp 87) (.tmp 89) 27 rfl (W2.heap.size) 9 i0 (.string ⟨#[]⟩) 1 16 Tryd.underlying27 hi hz0 hz1 hz2 rfl (by decide) _ _ _ rfl (hown.alloc _) ⟨wr.heap.size, 0, none⟩ 1 1 [.string S2] rfl rfl (cell_one_new _ _ _) (by simp [Value.oneCell']) (by unfold maxLen; omega) (by omega) (by simp; omega) ?_)
          intro v' w1 hown1 hgrow hne
          have hbw : Below W2.heap.size W2 w1 := (hb.alloc hbs _).grown hgrow (by simp; omega) (fun k hk => (hown.lt k hk).1)
          rw [← HSN.out] at hown1
          have HO1 := Lib.hid hown1; have HBW := Lib.hid hbw
          clear hown1 hbw hgrow hne hown hbs
          go_wp2_with fail
          exact ⟨⟨k + 1, by omega, by go_num, HO1, HBW.out⟩, by simp [intOf]; omega⟩
      · rcases cb with ⟨nb, tb⟩ | ⟨nb, S2, e2, y1, tb⟩ | ⟨nb, S2, e2, y1, y2, tb⟩ | ⟨nb, S2, e2, y1, y2, y3, d2, tb⟩
        · have hp : pick (tk A k) (tk B k) = [120] := by rw [ta, tb]; rfl
          have hsn : strsV (L.take (k + 1)) = strsV (L.take k) ++ [.string (⟨#[120]⟩ : ByteArray)] := strsV_snoc (HGK.out.trans (by rw [hp])) rfl
          have HSN := Lib.hid hsn; clear hsn hp
          have c1 := C1.out na; rw [e1] at c1; clear e1
          clear ta tb
          have hown := HOW.out
          have hbs := HBS.out
          go_wp2_with (at_builtin; refine wpList_append_own _ rfl (.tmp 61) (.tmp 62) 27 rfl (W2.heap.size) 9 i0 (.string ⟨#[]⟩) 1 16 Tryd.underlying27 hi hz0 hz1 hz2 rfl (by decide) _ _ _ rfl (hown.alloc _) ⟨wr.heap.size, 0, none⟩ 1 1 [.string ⟨#[120]⟩] rfl rfl (cell_one_new _ _ _) (by simp [Value.oneCell']) (by unfold maxLen; omega) (by omega) (by simp; omega) ?_)
          intro v' w1 hown1 hgrow hne
          have hbw : Below W2.heap.size W2 w1 := (hb.alloc hbs _).grown hgrow (by simp; omega) (fun k hk => (hown.lt k hk).1)
          rw [← HSN.out] at hown1
          have HO1 := Lib.hid hown1; have HBW := Lib.hid hbw
          clear hown1 hbw hgrow hne hown hbs
          go_wp2_with fail
          exact ⟨⟨k + 1, by omega, by go_num, HO1, HBW.out⟩, by simp [intOf]; omega⟩
        · have hp : pick (tk A k) (tk B k) = [120] := by rw [ta, tb]; rfl
          have hsn : strsV (L.take (k + 1)) = strsV (L.take k) ++ [.string (⟨#[120]⟩ : ByteArray)] := strsV_snoc (HGK.out.trans (by rw [hp])) rfl
          have HSN := Lib.hid hsn; clear hsn hp
          have c1 := C1.out na; rw [e1] at c1; clear e1
          have c2 := C2.out nb; rw [e2] at c2; clear e2
          clear ta tb
          have hown := HOW.out
          have hbs := HBS.out
          go_wp2_with (at_builtin; refine wpList_append_own _ rfl (.tmp 61) (.tmp 62) 27 rfl (W2.heap.size) 9 i0 (.string ⟨#[]⟩) 1 16 Tryd.underlying27 hi hz0 hz1 hz2 rfl (by decide) _ _ _ rfl (hown.alloc _) ⟨wr.heap.size, 0, none⟩ 1 1 [.string ⟨#[120]⟩] rfl rfl (cell_one_new _ _ _) (by simp [Value.oneCell']) (by unfold maxLen; omega) (by omega) (by simp; omega) ?_)
          intro v' w1 hown1 hgrow hne
          have hbw : Below W2.heap.size W2 w1 := (hb.alloc hbs _).grown hgrow (by simp; omega) (fun k hk => (hown.lt k hk).1)
          rw [← HSN.out] at hown1
          have HO1 := Lib.hid hown1; have HBW := Lib.hid hbw
          clear hown1 hbw hgrow hne hown hbs
          go_wp2_with fail
          exact ⟨⟨k + 1, by omega, by go_num, HO1, HBW.out⟩, by simp [intOf]; omega⟩
        · have hp : pick (tk A k) (tk B k) = [120] := by rw [ta, tb]; rfl
          have hsn : strsV (L.take (k + 1)) = strsV (L.take k) ++ [.string (⟨#[120]⟩ : ByteArray)] := strsV_snoc (HGK.out.trans (by rw [hp])) rfl
          have HSN := Lib.hid hsn; clear hsn hp
          have c1 := C1.out na; rw [e1] at c1; clear e1
          have c2 := C2.out nb; rw [e2] at c2; clear e2
          clear ta tb
          have hown := HOW.out
          have hbs := HBS.out
          go_wp2_with (at_builtin; refine wpList_append_own _ rfl (.tmp 61) (.tmp 62) 27 rfl (W2.heap.size) 9 i0 (.string ⟨#[]⟩) 1 16 Tryd.underlying27 hi hz0 hz1 hz2 rfl (by decide) _ _ _ rfl (hown.alloc _) ⟨wr.heap.size, 0, none⟩ 1 1 [.string ⟨#[120]⟩] rfl rfl (cell_one_new _ _ _) (by simp [Value.oneCell']) (by unfold maxLen; omega) (by omega) (by simp; omega) ?_)
          intro v' w1 hown1 hgrow hne
          have hbw : Below W2.heap.size W2 w1 := (hb.alloc hbs _).grown hgrow (by simp; omega) (fun k hk => (hown.lt k hk).1)
          rw [← HSN.out] at hown1
          have HO1 := Lib.hid hown1; have HBW := Lib.hid hbw
          clear hown1 hbw hgrow hne hown hbs
          go_wp2_with fail
          exact ⟨⟨k + 1, by omega, by go_num, HO1, HBW.out⟩, by simp [intOf]; omega⟩
        · have hp : pick (tk A k) (tk B k) = tk B k := by rw [ta, pick, if_neg (by simp), if_pos tb]
          have hsn : strsV (L.take (k + 1)) = strsV (L.take k) ++ [.string S2] := strsV_snoc (HGK.out.trans (by rw [hp])) d2
          have HSN := Lib.hid hsn; clear hsn hp
          have c1 := C1.out na; rw [e1] at c1; clear e1
          have c2 := C2.out nb; rw [e2] at c2; clear e2
          clear ta tb d2
          have hown := HOW.out
          have hbs := HBS.out
          go_wp2_with (at_builtin; refine wpList_append_own _ rfl (.tmp 87) (.tmp 89) 27 rfl (W2.heap.size) 9 i0 (.string ⟨#[]⟩) 1 16 Tryd.underlying27 hi hz0 hz1 hz2 rfl (by decide) _ _ _ rfl (hown.alloc _) ⟨wr.heap.size, 0, none⟩ 1 1 [.string S2] rfl rfl (cell_one_new _ _ _) (by simp [Value.oneCell']) (by unfold maxLen; omega) (by omega) (by simp; omega) ?_)
          intro v' w1 hown1 hgrow hne
          have hbw : Below W2.heap.size W2 w1 := (hb.alloc hbs _).grown hgrow (by simp; omega) (fun k hk => (hown.lt k hk).1)
          rw [← HSN.out] at hown1
          have HO1 := Lib.hid hown1; have HBW := Lib.hid hbw
          clear hown1 hbw hgrow hne hown hbs
          go_wp2_with fail
          exact ⟨⟨k + 1, by omega, by go_num, HO1, HBW.out⟩, by simp [intOf]; omega⟩
      · rcases cb with ⟨nb, tb⟩ | ⟨nb, S2, e2, y1, tb⟩ | ⟨nb, S2, e2, y1, y2, tb⟩ | ⟨nb, S2, e2, y1, y2, y3, d2, tb⟩
        · have hp : pick (tk A k) (tk B k) = [120] := by rw [ta, tb]; rfl
          have hsn : strsV (L.take (k + 1)) = strsV (L.take k) ++ [.string (⟨#[120]⟩ : ByteArray)] := strsV_snoc (HGK.out.trans (by rw [hp])) rfl
          have HSN := Lib.hid hsn; clear hsn hp
          have c1 := C1.out na; rw [e1] at c1; clear e1
          clear ta tb
          have hown := HOW.out
          have hbs := HBS.out
          go_wp2_with (at_builtin; refine wpList_append_own _ rfl (.tmp 61) (.tmp 62) 27 rfl (W2.heap.size) 9 i0 (.string ⟨#[]⟩) 1 16 Tryd.underlying27 hi hz0 hz1 hz2 rfl (by decide) _ _ _ rfl (hown.alloc _) ⟨wr.heap.size, 0, none⟩ 1 1 [.string ⟨#[120]⟩] rfl rfl (cell_one_new _ _ _) (by simp [Value.oneCell']) (by unfold maxLen; omega) (by omega) (by simp; omega) ?_)
          intro v' w1 hown1 hgrow hne
          have hbw : Below W2.heap.size W2 w1 := (hb.alloc hbs _).grown hgrow (by simp; omega) (fun k hk => (hown.lt k hk).1)
          rw [← HSN.out] at hown1
          have HO1 := Lib.hid hown1; have HBW := Lib.hid hbw
          clear hown1 hbw hgrow hne hown hbs
          go_wp2_with fail
          exact ⟨⟨k + 1, by omega, by go_num, HO1, HBW.out⟩, by simp [intOf]; omega⟩
        · have hp : pick (tk A k) (tk B k) = [120] := by rw [ta, tb]; rfl
          have hsn : strsV (L.take (k + 1)) = strsV (L.take k) ++ [.string (⟨#[120]⟩ : ByteArray)] := strsV_snoc (HGK.out.trans (by rw [hp])) rfl
          have HSN := Lib.hid hsn; clear hsn hp
          have c1 := C1.out na; rw [e1] at c1; clear e1
          have c2 := C2.out nb; rw [e2] at c2; clear e2
          clear ta tb
          have hown := HOW.out
          have hbs := HBS.out
          go_wp2_with (at_builtin; refine wpList_append_own _ rfl (.tmp 61) (.tmp 62) 27 rfl (W2.heap.size) 9 i0 (.string ⟨#[]⟩) 1 16 Tryd.underlying27 hi hz0 hz1 hz2 rfl (by decide) _ _ _ rfl (hown.alloc _) ⟨wr.heap.size, 0, none⟩ 1 1 [.string ⟨#[120]⟩] rfl rfl (cell_one_new _ _ _) (by simp [Value.oneCell']) (by unfold maxLen; omega) (by omega) (by simp; omega) ?_)
          intro v' w1 hown1 hgrow hne
          have hbw : Below W2.heap.size W2 w1 := (hb.alloc hbs _).grown hgrow (by simp; omega) (fun k hk => (hown.lt k hk).1)
          rw [← HSN.out] at hown1
          have HO1 := Lib.hid hown1; have HBW := Lib.hid hbw
          clear hown1 hbw hgrow hne hown hbs
          go_wp2_with fail
          exact ⟨⟨k + 1, by omega, by go_num, HO1, HBW.out⟩, by simp [intOf]; omega⟩
        · have hp : pick (tk A k) (tk B k) = [120] := by rw [ta, tb]; rfl
          have hsn : strsV (L.take (k + 1)) = strsV (L.take k) ++ [.string (⟨#[120]⟩ : ByteArray)] := strsV_snoc (HGK.out.trans (by rw [hp])) rfl
          have HSN := Lib.hid hsn; clear hsn hp
          have c1 := C1.out na; rw [e1] at c1; clear e1
          have c2 := C2.out nb; rw [e2] at c2; clear e2
          clear ta tb
          have hown := HOW.out
          have hbs := HBS.out
          go_wp2_with (at_builtin; refine wpList_append_own _ rfl (.tmp 61) (.tmp 62) 27 rfl (W2.heap.size) 9 i0 (.string ⟨#[]⟩) 1 16 Tryd.underlying27 hi hz0 hz1 hz2 rfl (by decide) _ _ _ rfl (hown.alloc _) ⟨wr.heap.size, 0, none⟩ 1 1 [.string ⟨#[120]⟩] rfl rfl (cell_one_new _ _ _) (by simp [Value.oneCell']) (by unfold maxLen; omega) (by omega) (by simp; omega) ?_)
          intro v' w1 hown1 hgrow hne
          have hbw : Below W2.heap.size W2 w1 := (hb.alloc hbs _).grown hgrow (by simp; omega) (fun k hk => (hown.lt k hk).1)
          rw [← HSN.out] at hown1
          have HO1 := Lib.hid hown1; have HBW := Lib.hid hbw
          clear hown1 hbw hgrow hne hown hbs
          go_wp2_with fail
          exact ⟨⟨k + 1, by omega, by go_num, HO1, HBW.out⟩, by simp [intOf]; omega⟩
        · have hp : pick (tk A k) (tk B k) = tk B k := by rw [ta, pick, if_neg (by simp), if_pos tb]
          have hsn : strsV (L.take (k + 1)) = strsV (L.take k) ++ [.string S2] := strsV_snoc (HGK.out.trans (by rw [hp])) d2
          have HSN := Lib.hid hsn; clear hsn hp
          have c1 := C1.out na; rw [e1] at c1; clear e1
          have c2 := C2.out nb; rw [e2] at c2; clear e2
          clear ta tb d2
          have hown := HOW.out
          have hbs := HBS.out
          go_wp2_with (at_builtin; refine wpList_append_own _ rfl (.tmp 87) (.tmp 89) 27 rfl (W2.heap.size) 9 i0 (.string ⟨#[]⟩) 1 16 Tryd.underlying27 hi hz0 hz1 hz2 rfl (by decide) _ _ _ rfl (hown.alloc _) ⟨wr.heap.size, 0, none⟩ 1 1 [.string S2] rfl rfl (cell_one_new _ _ _) (by simp [Value.oneCell']) (by unfold maxLen; omega) (by omega) (by simp; omega) ?_)
          intro v' w1 hown1 hgrow hne
          have hbw : Below W2.heap.size W2 w1 := (hb.alloc hbs _).grown hgrow (by simp; omega) (fun k hk => (hown.lt k hk).1)
          rw [← HSN.out] at hown1
          have HO1 := Lib.hid hown1; have HBW := Lib.hid hbw
          clear hown1 hbw hgrow hne hown hbs
          go_wp2_with fail
          exact ⟨⟨k + 1, by omega, by go_num, HO1, HBW.out⟩, by simp [intOf]; omega⟩
      · rcases cb with ⟨nb, tb⟩ | ⟨nb, S2, e2, y1, tb⟩ | ⟨nb, S2, e2, y1, y2, tb⟩ | ⟨nb, S2, e2, y1, y2, y3, d2, tb⟩
        · have hp : pick (tk A k) (tk B k) = tk A k := by rw [pick, if_pos ta]
          have hsn : strsV (L.take (k + 1)) = strsV (L.take k) ++ [.string S1] := strsV_snoc (HGK.out.trans (by rw [hp])) d1
          have HSN := Lib.hid hsn; clear hsn hp
          have c1 := C1.out na; rw [e1] at c1; clear e1
          clear ta tb d1
          have hown := HOW.out
          have hbs := HBS.out
          go_wp2_with (at_builtin; refine wpList_append_own _ rfl (.tmp 80) (.tmp 82) 27 rfl (W2.heap.size) 9 i0 (.string ⟨#[]⟩) 1 16 Tryd.underlying27 hi hz0 hz1 hz2 rfl (by decide) _ _ _ rfl (hown.alloc _) ⟨wr.heap.size, 0, none⟩ 1 1 [.string S1] rfl rfl (cell_one_new _ _ _) (by simp [Value.oneCell']) (by unfold maxLen; omega) (by omega) (by simp; omega) ?_)
          intro v' w1 hown1 hgrow hne
          have hbw : Below W2.heap.size W2 w1 := (hb.alloc hbs _).grown hgrow (by simp; omega) (fun k hk => (hown.lt k hk).1)
          rw [← HSN.out] at hown1
          have HO1 := Lib.hid hown1; have HBW := Lib.hid hbw
          clear hown1 hbw hgrow hne hown hbs
          go_wp2_with fail
          exact ⟨⟨k + 1, by omega, by go_num, HO1, HBW.out⟩, by simp [intOf]; omega⟩
        · have hp : pick (tk A k) (tk B k) = tk A k := by rw [pick, if_pos ta]
          have hsn : strsV (L.take (k + 1)) = strsV (L.take k) ++ [.string S1] := strsV_snoc (HGK.out.trans (by rw [hp])) d1
          have HSN := Lib.hid hsn; clear hsn hp
          have c1 := C1.out na; rw [e1] at c1; clear e1
          have c2 := C2.out nb; rw [e2] at c2; clear e2
          clear ta tb d1
          have hown := HOW.out
          have hbs := HBS.out
          go_wp2_with (at_builtin; refine wpList_append_own _ rfl (.tmp 80) (.tmp 82) 27 rfl (W2.heap.size) 9 i0 (.string ⟨#[]⟩) 1 16 Tryd.underlying27 hi hz0 hz1 hz2 rfl (by decide) _ _ _ rfl (hown.alloc _) ⟨wr.heap.size, 0, none⟩ 1 1 [.string S1] rfl rfl (cell_one_new _ _ _) (by simp [Value.oneCell']) (by unfold maxLen; omega) (by omega) (by simp; omega) ?_)
          intro v' w1 hown1 hgrow hne
          have hbw : Below W2.heap.size W2 w1 := (hb.alloc hbs _).grown hgrow (by simp; omega) (fun k hk => (hown.lt k hk).1)
          rw [← HSN.out] at hown1
          have HO1 := Lib.hid hown1; have HBW := Lib.hid hbw
          clear hown1 hbw hgrow hne hown hbs
          go_wp2_with fail
          exact ⟨⟨k + 1, by omega, by go_num, HO1, HBW.out⟩, by simp [intOf]; omega⟩
        · have hp : pick (tk A k) (tk B k) = tk A k := by rw [pick, if_pos ta]
          have hsn : strsV (L.take (k + 1)) = strsV (L.take k) ++ [.string S1] := strsV_snoc (HGK.out.trans (by rw [hp])) d1
          have HSN := Lib.hid hsn; clear hsn hp
          have c1 := C1.out na; rw [e1] at c1; clear e1
          have c2 := C2.out nb; rw [e2] at c2; clear e2
          clear ta tb d1
          have hown := HOW.out
          have hbs := HBS.out
          go_wp2_with (at_builtin; refine wpList_append_own _ rfl (.tmp 80) (.tmp 82) 27 rfl (W2.heap.size) 9 i0 (.string ⟨#[]⟩) 1 16 Tryd.underlying27 hi hz0 hz1 hz2 rfl (by decide) _ _ _ rfl (hown.alloc _) ⟨wr.heap.size, 0, none⟩ 1 1 [.string S1] rfl rfl (cell_one_new _ _ _) (by simp [Value.oneCell']) (by unfold maxLen; omega) (by omega) (by simp; omega) ?_)
          intro v' w1 hown1 hgrow hne
          have hbw : Below W2.heap.size W2 w1 := (hb.alloc hbs _).grown hgrow (by simp; omega) (fun k hk => (hown.lt k hk).1)
          rw [← HSN.out] at hown1
          have HO1 := Lib.hid hown1; have HBW := Lib.hid hbw
          clear hown1 hbw hgrow hne hown hbs
          go_wp2_with fail
          exact ⟨⟨k + 1, by omega, by go_num, HO1, HBW.out⟩, by simp [intOf]; omega⟩
        · have hp : pick (tk A k) (tk B k) = tk A k := by rw [pick, if_pos ta]
          have hsn : strsV (L.take (k + 1)) = strsV (L.take k) ++ [.string S1] := strsV_snoc (HGK.out.trans (by rw [hp])) d1
          have HSN := Lib.hid hsn; clear hsn hp
          have c1 := C1.out na; rw [e1] at c1; clear e1
          have c2 := C2.out nb; rw [e2] at c2; clear e2
          clear ta tb d1 d2
          have hown := HOW.out
          have hbs := HBS.out
          go_wp2_with (at_builtin; refine wpList_append_own _ rfl (.tmp 80) (.tmp 82) 27 rfl (W2.heap.size) 9 i0 (.string ⟨#[]⟩) 1 16 Tryd.underlying27 hi hz0 hz1 hz2 rfl (by decide) _ _ _ rfl (hown.alloc _) ⟨wr.heap.size, 0, none⟩ 1 1 [.string S1] rfl rfl (cell_one_new _ _ _) (by simp [Value.oneCell']) (by unfold maxLen; omega) (by omega) (by simp; omega) ?_)
          intro v' w1 hown1 hgrow hne
          have hbw : Below W2.heap.size W2 w1 := (hb.alloc hbs _).grown hgrow (by simp; omega) (fun k hk => (hown.lt k hk).1)
          rw [← HSN.out] at hown1
          have HO1 := Lib.hid hown1; have HBW := Lib.hid hbw
          clear hown1 hbw hgrow hne hown hbs
          go_wp2_with fail
          exact ⟨⟨k + 1, by omega, by go_num, HO1, HBW.out⟩, by simp [intOf]; omega⟩
    · obtain rfl : k = max nA nB := by omega
      have ha : ¬ max nA nB < nA := by omega
      have hbn : ¬ max nA nB < nB := by omega
      have hown2 := hown
      rw [List.take_of_length_le (by rw [HL.out]; omega)] at hown2
      have hjr := join_row L hown2 (by rw [HL.out]; omega) (by have := HEL.out; omega)
      have HJR := Lib.hid hjr
      clear hown2 hjr hown c1 c2
      go_wp2_with fail
      refine HJR.out.mono ?_
      rintro e w' ⟨rfl, hbj⟩
      go_wp2
      go_ret
      exact ⟨rfl, HB.out.trans ((hb.mono HB.out.size).trans (hbj.mono (Nat.le_trans HB.out.size hbs)))⟩
set_option maxHeartbeats 8000000 in
set_option maxRecDepth 100000 in
theorem subjectShows_walk (f g : ByteArray) (w : World) (hf : f.size ≤ 1048576) (hg : g.size ≤ 1048576) (hm : ML w) :
    Calls Tryd.prog 3 #[.string f, .string g] w (IsRet w true) := by
  have k0 : ∀ w', Inv w w' → _ := known_inv (w0 := w)
  have k1 := overlap_inv (w0 := w) f g hf hg
  have hI := Inv.refl hm
  cases ho : isO f.data.toList g.data.toList with
  | false =>
    rw [ho] at k1
    have K0 := Lib.hid k0; have K1 := Lib.hid k1
    clear k0 k1 hm
    go_enter Tryd.func3, Tryd.ntmps3
    repeat
      go_wp2_with fail
      with_reducible first
        | refine Calls.mono (K0.out _ (by assumption)) ?_
        | refine Calls.mono (K1.out _ (by assumption)) ?_
      rintro e w' ⟨rfl, hI⟩
    go_wp2
    go_ret
    exact ⟨rfl, by assumption⟩
  | true =>
    obtain ⟨m1, m2⟩ := shown_isM ho
    have hel := Rec.err_len (shown_err ho)
    have k2 : ∀ w', Inv w w' → Calls Tryd.prog 15 #[.string f, .string g] w' fun e w1 => e = .returned (.string ⟨(joined (shownR (pieces f.data.toList) (pieces g.data.toList))).toArray⟩) ∧ Inv w w1 := fun w' h =>
      (shown_any f g w' hf hg h.1 ho).mono fun e w1 ⟨a, b⟩ => ⟨a, h.step b⟩
    generalize hL : joined (shownR (pieces f.data.toList) (pieces g.data.toList)) = L at *
    have hsz : (⟨L.toArray⟩ : ByteArray).size ≤ 1048576 := by
      show L.toArray.size ≤ _
      simp; omega
    have hl : (⟨L.toArray⟩ : ByteArray).data.toList = L := by simp
    have k3 := match_inv (w0 := w) f ⟨L.toArray⟩ hf hsz
    have k4 := match_inv (w0 := w) g ⟨L.toArray⟩ hg hsz
    rw [hl, m1] at k3
    rw [hl, m2] at k4
    rw [ho] at k1
    generalize (⟨L.toArray⟩ : ByteArray) = s at *
    have K0 := Lib.hid k0; have K1 := Lib.hid k1; have K2 := Lib.hid k2; have K3 := Lib.hid k3; have K4 := Lib.hid k4
    clear k0 k1 k2 k3 k4 hm hl hsz hel m1 m2
    go_enter Tryd.func3, Tryd.ntmps3
    repeat
      go_wp2_with fail
      with_reducible first
        | refine Calls.mono (K0.out _ (by assumption)) ?_
        | refine Calls.mono (K1.out _ (by assumption)) ?_
        | refine Calls.mono (K2.out _ (by assumption)) ?_
        | refine Calls.mono (K3.out _ (by assumption)) ?_
        | refine Calls.mono (K4.out _ (by assumption)) ?_
      rintro e w' ⟨rfl, hI⟩
    go_wp2
    go_ret
    exact ⟨rfl, by assumption⟩

end Go.Proofs.YtglgbidcmkncgaaDoor.Subj
