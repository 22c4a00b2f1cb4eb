/- taker.list and taker.Print, walked. -/
import Derived.Test.YtglgbidcmkncgaaDoorTakeText
import Derived.Test.YtglgbidcmkncgaaDoorTakeBack
import Derived.Test.YtglgbidcmkncgaaDoorTakeCheck2
import Derived.Test.YtglgbidcmkncgaaDoorPlanSay
import Derived.Test.YtglgbidcmkncgaaDoorRefPieces
import Derived.Deep.CutRange
namespace Go.Proofs.YtglgbidcmkncgaaDoor.Subj
open Go.RowKit
open Go.Sort (grow)

/-- The words so far, in a row of their own. -/
def AW (w2 : World) (l : List Tok) (v : Value) (w : World) : Prop :=
  Below w2.heap.size w2 w ∧ Heap.Row w 9 1 v l.length (strsV l) ∧ ∀ k, Heap.own v k → w2.heap.size ≤ k

theorem news_str (w : World) (x : ByteArray) (t : TypeId) : ∀ j u, ([Value.string x] : List Value)[j]? = some u → (w.alloc (.cells #[.string x] t)).cell? ((⟨w.heap.size, 0, none⟩ : Addr).add j) = some u := by
  intro j u hu
  rcases j with _ | j
  · simp only [List.getElem?_cons_zero, Option.some.injEq] at hu
    subst hu
    rw [Addr.add_lit, World.cell?_alloc_at _ _ _ _ rfl]; rfl
  · simp at hu

theorem AW.grow {w2 wr w' : World} {l : List Tok} {v : Value} (h : AW w2 l v wr) (hb : Below wr.heap.size wr w') (x : ByteArray) (t : Tok) (ht : x.data.toList = t) :
    Heap.Row (w'.alloc (.cells #[.string x] 9)) 9 1 v l.length (strsV l) ∧
      ∀ v2 w3, Heap.Row w3 9 1 v2 (l.length + 1) (strsV l ++ [.string x]) → Heap.Touch (Heap.own v) (w'.alloc (.cells #[.string x] 9)) w3 → (∀ k, Heap.own v2 k → Heap.own v k ∨ w'.heap.size + 1 ≤ k) → AW w2 (l ++ [t]) v2 w3 := by
  have hba : Below wr.heap.size wr (w'.alloc (.cells #[.string x] 9)) := hb.alloc hb.size _
  have hx : x = ⟨t.toArray⟩ := by apply ByteArray.ext; apply Array.ext'; exact ht
  refine ⟨h.2.1.kept ((Heap.Touch.ofBelow (F := fun _ => False) hba).same fun _ _ hf => hf), fun v2 w3 r3 t3 o3 => ⟨?_, ?_, ?_⟩⟩
  · have h1 := h.1.trans (hba.mono h.1.size)
    exact h1.trans (t3.below h1.size fun k hk => h.2.2 k hk)
  · have e1 : (l ++ [t]).length = l.length + 1 := by simp
    have e2 : strsV (l ++ [t]) = strsV l ++ [.string x] := by rw [hx]; simp [strsV]
    rw [e1, e2]; exact r3
  · intro k hk
    rcases o3 k hk with hk | hk
    · exact h.2.2 k hk
    · have h1 := h.1.size
      have h2 := hb.size
      omega

theorem AW.next {w2 wr w' : World} {l : List Tok} {v : Value} (h : AW w2 l v wr) (hb : Below wr.heap.size wr w') : AW w2 l v w' :=
  ⟨h.1.trans (hb.mono h.1.size), h.2.1.kept ((Heap.Touch.ofBelow (F := fun _ => False) hb).same fun _ _ hf => hf), h.2.2⟩

theorem strs_row {w : World} {v : Value} {l : List Tok} (h : Heap.Row w 9 1 v l.length (strsV l)) : Strs w v l := by
  rcases h.2 with ⟨rfl, h2⟩ | ⟨g, off, cap, cur, rfl, hg, h1, h2, h3, h4⟩
  · have : l = [] := List.length_eq_zero_iff.1 h2
    subst this
    exact ⟨none, 0, rfl, Nat.le_refl _, fun hn => absurd rfl hn⟩
  · refine ⟨_, cap, rfl, h1, fun _ => ⟨g, off, rfl, fun k hk => ?_⟩⟩
    have := (h.cell k (by omega)).1
    rw [this]
    exact strsV_get l k hk

theorem join_len (sep : Tok) (B : Nat) : ∀ fs : List Tok, (∀ f ∈ fs, f.length ≤ B) → (Lib.join fs sep).length ≤ fs.length * (B + sep.length)
  | [], _ => by simp [Lib.join, List.intercalate]
  | [f], h => by
    have := h f (by simp)
    simp [Lib.join, List.intercalate]; omega
  | f :: g :: r, h => by
    have h1 := h f (by simp)
    have h2 := join_len sep B (g :: r) (fun x hx => h x (List.mem_cons_of_mem _ hx))
    have e : Lib.join (f :: g :: r) sep = f ++ sep ++ Lib.join (g :: r) sep := by
      simp [Lib.join, List.intercalate, List.intersperse]
    have e2 : (f :: g :: r).length * (B + sep.length) = (g :: r).length * (B + sep.length) + (B + sep.length) := by
      rw [List.length_cons, Nat.add_mul, Nat.one_mul]
    rw [e, e2, List.length_append, List.length_append]
    omega

theorem joinT_any (sep : ByteArray) (fs : List Tok) (v : Value) (w : World) (hS : Strs w v fs) (hne : fs ≠ []) (hs1 : sep.size = 1) (hl : fs.length ≤ 20) (hz : ∀ f ∈ fs, f.length ≤ 1024) :
    Calls Tryd.prog 53 #[v, .string sep] w (TextRet w ⟨(Lib.join fs sep.data.toList).toArray⟩ w) := by
  obtain ⟨ao, cap, rfl, hc, hat⟩ := hS
  obtain ⟨g, off, rfl, hst⟩ := hat hne
  have hlen : (fs.map fun t => (⟨t.toArray⟩ : ByteArray)).length = fs.length := by simp
  have hmap : (fs.map fun t => (⟨t.toArray⟩ : ByteArray)).map (·.data.toList) = fs := by
    rw [List.map_map]
    conv => rhs; rw [← List.map_id fs]
    rfl
  have hsl : sep.data.toList.length = 1 := by rw [← hs1]; simp
  have hj := join_len sep.data.toList 1024 fs hz
  rw [hsl] at hj
  have hj2 : fs.length * (1024 + 1) ≤ 20 * 1025 := Nat.mul_le_mul hl (by omega)
  have hpos : 0 < fs.length := List.length_pos_iff.2 hne
  have := Tryd.strings_Join g off cap (fs.map fun t => ⟨t.toArray⟩) sep w (fun j x hx => by
      have hj : j < fs.length := by have := (List.getElem?_eq_some_iff.1 hx).1; rw [hlen] at this; exact this
      have h1 := hst j hj
      rw [h1]
      rw [List.getElem?_map, List.getElem?_eq_getElem hj] at hx
      simp only [Option.map_some, Option.some.injEq] at hx
      subst hx
      unfold strAt
      simp [List.getD, hj]) (World.block_lt_of_cell? w _ (hst 0 hpos)) (by rw [hlen]; omega) (by rw [hlen]; exact hc) (by rw [hmap]; omega)
  rw [hlen, hmap] at this
  exact this

theorem info_strT : (Tryd.prog.info? 9).map (fun i => (i.zero, i.size, i.bytes)) = some (some (.string ⟨#[]⟩), 1, 16) := by kernel_rfl

theorem itoa_tok (v : Int) (h0 : 0 ≤ v) (h : v ≤ 999999999) : ((⟨(Lib.itoa v).toArray⟩ : ByteArray)).size ≤ 9 := by
  show (List.toArray _).size ≤ _
  rw [List.size_toArray]
  exact itoa_len h0 h

set_option maxHeartbeats 2000000 in
set_option maxRecDepth 100000 in
theorem list_any (back : List Int) (v : Value) (w : World) (hS : Ints w v back) (hne : 0 < back.length) (hl : back.length ≤ 5) (hz : ∀ k, k < back.length → 1 ≤ back.getD k 0 ∧ back.getD k 0 ≤ 100000) (hm : ML w) (ht : TenLaid w) :
    Calls Tryd.prog 87 #[v] w (TextRet w ⟨(listT back).toArray⟩ w) := by
  obtain ⟨n, hn⟩ : ∃ n, back.length = n := ⟨_, rfl⟩
  obtain ⟨ao, cap, rfl, hc, hat⟩ := hS
  obtain ⟨g, off, rfl, hst⟩ := hat (by intro e; rw [e] at hne; simp at hne)
  rw [hn] at hc hl hne ⊢
  have HST := Lib.hid hst; have HN := Lib.hid hn; have HZ := Lib.hid hz; have HT := Lib.hid ht; have HI := Lib.hid (Inv.refl hm)
  clear hst hn hz ht hm hat
  obtain ⟨i0, hi, hz0, hz1, hz2⟩ := info_parts info_strT
  have haw : AW w ((back.take 0).map Lib.itoa) (.slice none 0 0) w := ⟨Below.refl _ _, Heap.Row.nil _ _ _, fun k hk => by simp [Heap.own, Value.ownBlock] at hk⟩
  have HAW := Lib.hid haw
  clear haw
  go_enter Tryd.func87, Tryd.ntmps87
  go_wp2_with fail
  go_loopw [3, 5, 8] (fun s3 _ i wr => ∃ k : Nat, k ≤ n ∧ i = .int .i64 k ∧ Hid (AW w ((back.take k).map Lib.itoa) s3 wr)) (fun _ _ i _ => n - (intOf i).toNat)
  case atStart => exact ⟨0, Nat.zero_le _, rfl, HAW⟩
  case round =>
    obtain ⟨k, hk, rfl, HB⟩ := hrel
    by_cases hlt : k < n
    · have hltz : (k : Int) < n := by omega
      have c0 := (HST.out.below (HB.out.1)) k (by rw [HN.out]; exact hlt)
      have hx := HZ.out k (by rw [HN.out]; exact hlt)
      have hstep : (back.take (k + 1)).map Lib.itoa = (back.take k).map Lib.itoa ++ [Lib.itoa (back.getD k 0)] := by
        have hk' : k < back.length := by rw [HN.out]; exact hlt
        rw [List.take_add_one, List.getElem?_eq_getElem hk']
        show ((back.take k) ++ [back[k]]).map Lib.itoa = _
        rw [List.map_append]
        simp [List.getD, hk']
      have hll : ((back.take k).map Lib.itoa).length = k := by rw [List.length_map, List.length_take, HN.out]; omega
      have HSTEP := Lib.hid hstep; have HLL := Lib.hid hll
      have HIT := Lib.hid (itoa_any (back.getD k 0) (by omega) (by omega) _ (HT.out.inv (HI.out.step HB.out.1)))
      clear hstep hll hx
      generalize (back.take k).map Lib.itoa = l at *
      generalize back.getD k 0 = z at *
      obtain ⟨XX, hXX⟩ : ∃ XX : ByteArray, XX = ⟨(Lib.itoa z).toArray⟩ := ⟨_, rfl⟩
      have hxd : XX.data.toList = Lib.itoa z := by rw [hXX]
      rw [← hXX] at HIT
      have HXD := Lib.hid hxd
      clear hxd hXX
      obtain ⟨a3, c3, hs3⟩ := HB.out.2.1.slice
      subst hs3
      go_wp2_with fail
      refine HIT.out.mono ?_
      rintro e w' ⟨rfl, hb'⟩
      have HG := Lib.hid (AW.grow HB.out hb' XX _ HXD.out)
      have hk20 : l.length ≤ 20 := by have := HLL.out; omega
      clear hb' c0
      go_wp2_with (at_builtin; refine Heap.wpList_append_row _ rfl (.tmp 12) (.tmp 15) 27 rfl 9 i0 _ 1 16 Tryd.underlying27 hi hz0 hz1 hz2 rfl (by decide) _ l.length _ rfl HG.out.1 ⟨w'.heap.size, 0, none⟩ 1 1 [.string XX] rfl rfl (news_str w' XX _) (by simp [Value.oneCell']) (by unfold maxLen; omega) (by omega) ?_)
      intro v2 w3 r3 t3 o3
      have HF := Lib.hid (HG.out.2 v2 w3 r3 t3 o3)
      clear r3 t3 o3
      go_wp2_with fail
      exact ⟨⟨k + 1, by omega, by go_num, by rw [HSTEP.out]; exact HF⟩, by simp [intOf]; omega⟩
    · have hltz : ¬ (k : Int) < n := by omega
      obtain rfl : k = n := by omega
      have hb := HB.out
      rw [List.take_of_length_le (by rw [HN.out]; exact Nat.le_refl _)] at hb
      have HJ := Lib.hid (joinT_any ⟨#[44]⟩ (back.map Lib.itoa) _ _ (strs_row hb.2.1) (by intro e; have := congrArg List.length e; rw [List.length_map, HN.out, List.length_nil] at this; omega) rfl (by rw [List.length_map, HN.out]; omega) (fun f hf => by
        obtain ⟨z, hz, rfl⟩ := List.mem_map.1 hf
        obtain ⟨j, hj, rfl⟩ := List.getElem_of_mem hz
        have h1 := HZ.out j hj
        have h2 : back.getD j 0 = back[j] := by simp [List.getD, hj]
        rw [h2] at h1
        have := itoa_len (v := back[j]) (by omega) (by omega)
        omega))
      have HBB := Lib.hid hb.1
      clear hb
      go_wp2_with fail
      refine HJ.out.mono ?_
      rintro e w' ⟨rfl, hb'⟩
      have HB' := Lib.hid (HBB.out.trans (hb'.mono HBB.out.size))
      clear hb'
      go_wp2
      go_ret
      exact ⟨rfl, HB'.out⟩

def PrintTPost (W : World) (x : List UInt8 × Nat) (e : Ending) (w : World) : Prop := e = .returned (.tuple #[.string ⟨x.1.toArray⟩, .int .i64 x.2]) ∧ Inv W w

/-- What 'Print' answers. -/
def printT (t : TakerP) : List UInt8 × Nat := if errT t = 0 then (textT t, 0) else ([], errT t)
end Go.Proofs.YtglgbidcmkncgaaDoor.Subj
