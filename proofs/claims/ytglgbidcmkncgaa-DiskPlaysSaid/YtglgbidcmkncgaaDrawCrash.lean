/- The reference's disk: Crash. -/
import Derived.Test.YtglgbidcmkncgaaDrawList
import Derived.Test.YtglgbidcmkncgaaDiskCrash
namespace Go.Proofs.Ytglgbidcmkncgaa.Drw
open Go.RowKit Heap Dsk

theorem crashI_form {K i : Nat} {A : List FileP} (hi : i < A.length) : (crashI K i A)[i]? = some A[i] ∧ (crashI K i A).set i (keptF K A[i]) = crashI K (i + 1) A ∧ (crashI K i A).length = A.length := by
  have hd : A.drop i = A[i] :: A.drop (i + 1) := List.drop_eq_getElem_cons hi
  have hl : ((A.take i).map (keptF K)).length = i := by rw [List.length_map, List.length_take]; omega
  refine ⟨?_, ?_, ?_⟩
  · unfold crashI
    rw [List.getElem?_append_right (by omega), hl, Nat.sub_self, hd]; rfl
  · unfold crashI
    rw [List.set_append_right _ _ (by omega), hl, Nat.sub_self, hd, List.set_cons_zero, List.take_add_one, List.getElem?_eq_getElem hi]
    show _ = ((A.take i) ++ [A[i]]).map (keptF K) ++ _
    rw [List.map_append]; simp
  · unfold crashI
    rw [List.length_append, hl, List.length_drop]; omega

theorem total_crash : ∀ (A : List FileP) (K : Nat), total (crashD A K) ≤ total A
  | [], _ => Nat.le_refl _
  | a :: r, K => by
    have ih := total_crash r K
    show (keptF K a).text.length + total (crashD r K) ≤ a.text.length + total r
    have : (keptF K a).text.length ≤ a.text.length := by
      show (a.text.take _).length ≤ _
      rw [List.length_take]; omega
    omega

theorem RightD.crash {room : Int} {A : List FileP} (h : RightD room A) (K : Nat) : RightD room (crashD A K) := by
  have hm : (crashD A K).map (·.n) = A.map (·.n) := by unfold crashD; rw [List.map_map]; rfl
  refine ⟨by rw [sorted_iff, hm, ← sorted_iff]; exact h.sorted, by unfold crashD; rw [List.length_map]; exact h.few, by have := total_crash A K; have := h.fits; omega, h.small, fun x hx => ?_, fun x hx => ?_⟩
  · obtain ⟨y, hy, rfl⟩ := List.mem_map.1 hx
    have := h.sure y hy
    show y.sure + min K (y.text.length - y.sure) ≤ (y.text.take (y.sure + min K (y.text.length - y.sure))).length
    rw [List.length_take]; omega
  · obtain ⟨y, hy, rfl⟩ := List.mem_map.1 hx
    exact h.num y hy

def CW (E : Nat) (room : Int) (v : Value) (n : Nat) (l : List FileP) (w wr : World) : Prop :=
  wr.heap[E]? = some (.cells #[.int .i64 room, v] 59 (0, 0)) ∧ Row wr 81 3 v n (plsV l) ∧ Heap.Touch (own v) w wr

/-- A paper's cell, written. -/
theorem CW.put {E : Nat} {room : Int} {n g off cap : Nat} {l : List FileP} {w wr : World} {k j : Nat} {p q : FileP} {u : Value} (h : CW E room (.slice (some ⟨g, off, none⟩) n cap) n l w wr) (hp : l[k]? = some p) (hk : k < n) (hj : j < 3) (hq : cells q = (cells p).set j u) (hne : E ≠ g) :
    CW E room (.slice (some ⟨g, off, none⟩) n cap) n (l.set k q) w (wr.setCell ⟨g, off + k * 3 + j, none⟩ u) := by
  have hset := Row.set h.2.1 (k * 3 + j) (by omega) u
  rw [plsV_set hp hj hq, ← Nat.add_assoc] at hset
  exact ⟨(heap_setCell_other _ _ _ _ hne).trans h.1, hset, h.2.2.setCell (.inl (by simp [own, Value.ownBlock])) _⟩

theorem byte_back (X : ByteArray) : (⟨X.data.toList.toArray⟩ : ByteArray) = X := by cases X; simp

/-- Where the look through a text stands. -/
def InC (sure K : Nat) (T T2 : ByteArray) (kk : Nat) : Prop := (T2 = T ∧ sure ≤ kk ∧ kk ≤ sure + K ∧ kk ≤ T.size) ∨ (sure + K < T.size ∧ T2 = T.extract 0 (sure + K) ∧ kk = sure + K + 1)

section
variable {W w : World} {G : Nat → Prop} {E : Nat} {room : Int} {A : List FileP}

set_option maxHeartbeats 2000000 in
set_option maxRecDepth 100000 in
theorem crash_drw (h : DrawAt W G E room A w) (keep : Int) (hkp : -9223372036854775808 ≤ keep ∧ keep ≤ 9223372036854775807) : Calls Try.prog 37 #[.pointer (some ⟨E, 0, none⟩), .int .i64 keep] w fun e w' => e = .returned (.tuple #[]) ∧ DrawAt W G E room (crashD A keep.toNat) w' ∧ Heap.Touch G w w' := by
  have HH := Lib.hid h
  obtain ⟨K, hK⟩ : ∃ K, keep.toNat = K := ⟨_, rfl⟩
  rw [hK]
  have HK := Lib.hid hK
  obtain ⟨v, h1, h2, h3⟩ := h.mem
  have hfew := h.right.few
  obtain ⟨L, hL⟩ : ∃ L, A.length = L := ⟨_, rfl⟩
  rw [hL] at hfew h2
  have HL := Lib.hid hL
  obtain ⟨a, c, hv⟩ := h2.slice
  subst hv
  have H0 := Lib.hid (show CW E room (.slice a L c) L (crashI K 0 A) w w from ⟨h1, by rw [crashI_zero]; exact h2, Heap.Touch.refl _ _⟩)
  have HEND := Lib.hid (fun wr (q : CW E room (.slice a L c) L (crashI K L A) w wr) => (by
    obtain ⟨q1, q2, q3⟩ := q
    rw [← hL, crashI_all] at q2
    have tf : Heap.Touch G w wr := q3.mono fun j _ hj => h3 j (by rw [hL] at *; exact hj)
    exact ⟨⟨RightD.crash h.right K, h.below.trans (tf.below h.below.size h.newG), h.newG, h.gE, _, q1, by rw [show (crashD A K).length = A.length from by unfold crashD; rw [List.length_map]]; rw [hL] at q2 ⊢; exact q2, h3⟩, tf⟩ : DrawAt W G E room (crashD A K) wr ∧ Heap.Touch G w wr))
  clear h h1 h2 h3 hL hK
  go_enter Try.func37, Try.ntmps37
  go_wp2_with fail
  go_loopw [4] (fun i wr => ∃ k : Nat, k ≤ L ∧ i = .int .i64 k ∧ Hid (CW E room (.slice a L c) L (crashI K k A) w wr)) (fun i _ => L - (intOf i).toNat)
  case atStart => exact ⟨0, Nat.zero_le _, rfl, H0⟩
  case round =>
    obtain ⟨k, hk, rfl, HR⟩ := hrel
    clear H0
    obtain ⟨c0, c1, cf⟩ := twoC HR.out.1
    by_cases hlt : k < L
    · have hltz : (k : Int) < L := by omega
      have hkA : k < A.length := by rw [HL.out]; exact hlt
      obtain ⟨g1, g2, g3⟩ := crashI_form (K := K) hkA
      have hpm : A[k] ∈ A := List.getElem_mem hkA
      generalize A[k] = p at g1 g2 hpm
      have hsure := HH.out.right.sure p hpm
      have hplen := HH.out.right.len hpm
      have hrow := HR.out.2.1.2
      rcases hrow with ⟨hv, h0⟩ | ⟨g, off, cap, cur, hv, _⟩
      · omega
      simp only [Value.slice.injEq, true_and] at hv
      obtain ⟨rfl, rfl⟩ := hv
      have hneE : E ≠ g := fun e => ne_row HR.out.1 HR.out.2.1 (by rw [e]; simp [own, Value.ownBlock])
      obtain ⟨d0, d1, d2⟩ := cells_pull HR.out.2.1 k p g1 hlt
      obtain ⟨T, hT, hTs, hTl⟩ := text_of p.text
      have G1 := Lib.hid g1; have G2 := Lib.hid g2; have HT := Lib.hid hT; have HTS := Lib.hid hTs; have HTL := Lib.hid hTl
      have hsureT : p.sure ≤ T.size := by rw [hTs]; exact hsure
      have hTlen : T.size ≤ 65536 := by rw [hTs]; exact hplen
      clear g1 g2 g3 hpm hsure hplen hT hTs hTl d0 d2
      -- the text is looked through from what is sure on
      have HI0 := Lib.hid (show CW E room (.slice (some ⟨g, off, none⟩) L c) L ((crashI K k A).set k ⟨p.n, p.text, p.sure⟩) w wr from by
        rw [show (crashI K k A).set k ⟨p.n, p.text, p.sure⟩ = crashI K k A from by
          have := G1.out
          apply List.ext_getElem?
          intro j
          by_cases hj : k = j
          · subst hj; rw [List.getElem?_set_self (List.getElem?_eq_some_iff.1 this).1]; exact this.symm
          · rw [List.getElem?_set_ne hj]]
        exact HR.out)
      have HI1 := Lib.hid (show CW E room (.slice (some ⟨g, off, none⟩) L c) L ((crashI K k A).set k ⟨p.n, T.data.toList, p.sure⟩) w wr ∧ InC p.sure K T T p.sure from ⟨by rw [HTL.out]; exact HI0.out, .inl ⟨rfl, Nat.le_refl _, Nat.le_add_right _ _, hsureT⟩⟩)
      clear HI0
      go_wp2_with fail
      go_loopw [6] (fun i wr => ∃ (kk : Nat) (T2 : ByteArray), i = .int .i64 kk ∧ Hid (CW E room (.slice (some ⟨g, off, none⟩) L c) L ((crashI K k A).set k ⟨p.n, T2.data.toList, p.sure⟩) w wr ∧ InC p.sure K T T2 kk)) (fun i _ => T.size + 1 - (intOf i).toNat)
      case atStart => exact ⟨p.sure, T, rfl, HI1⟩
      case round =>
        obtain ⟨kk, T2, rfl, HI⟩ := hrel
        clear HI1 HR c0 c1 cf d1
        have hlk : ((crashI K k A).set k ⟨p.n, T2.data.toList, p.sure⟩)[k]? = some ⟨p.n, T2.data.toList, p.sure⟩ := by
          rw [List.getElem?_set_self (List.getElem?_eq_some_iff.1 G1.out).1]
        obtain ⟨c0, c1, cf⟩ := twoC HI.out.1.1
        obtain ⟨d0, d1, d2⟩ := cells_pull HI.out.1.2.1 k _ hlk hlt
        obtain ⟨f0, f1, f2⟩ := frozen_pull HI.out.1.2.1 k hlt
        rw [byte_back T2] at d2
        have HLK := Lib.hid hlk
        clear hlk
        by_cases hin : kk < T2.size
        · have hinz : (kk : Int) < T2.size := by omega
          have hun : T2 = T ∧ p.sure ≤ kk ∧ kk ≤ p.sure + K ∧ kk ≤ T.size := by
            rcases HI.out.2 with h | ⟨h1, h2, h3⟩
            · exact h
            · rw [h2, ByteArray.size_extract] at hin
              omega
          obtain ⟨rfl, hu1, hu2, hu3⟩ := hun
          have wz : IntKind.i64.wrap ((kk : Int) - (p.sure : Int)) = (kk : Int) - (p.sure : Int) := IntWalk.i64_in _ (by omega)
          by_cases hge : keep ≤ (kk : Int) - p.sure
          · have hkk : kk = p.sure + K := by have := HK.out; omega
            have HF := Lib.hid (show CW E room (.slice (some ⟨g, off, none⟩) L c) L ((crashI K k A).set k ⟨p.n, (T2.extract 0 kk).data.toList, p.sure⟩) w (wr.setCell ⟨g, off + k * 3 + 2, none⟩ (.string (T2.extract 0 kk))) ∧ InC p.sure K T2 (T2.extract 0 kk) (kk + 1) from by
              refine ⟨?_, .inr ⟨by omega, by rw [hkk], by omega⟩⟩
              have := CW.put (j := 2) (u := .string (T2.extract 0 kk)) (q := ⟨p.n, (T2.extract 0 kk).data.toList, p.sure⟩) HI.out.1 HLK.out hlt (by omega) (by show [_, _, Value.string (⟨(T2.extract 0 kk).data.toList.toArray⟩ : ByteArray)] = _; rw [byte_back]; rfl) hneE
              rw [List.set_set] at this
              exact this)
            clear HI hkk
            go_wp2_with fail
            exact ⟨⟨kk + 1, _, by go_num, HF⟩, by simp [intOf]; omega⟩
          · have hgz : (kk : Int) - p.sure < keep := by omega
            have HF := Lib.hid (show CW E room (.slice (some ⟨g, off, none⟩) L c) L ((crashI K k A).set k ⟨p.n, T2.data.toList, p.sure⟩) w wr ∧ InC p.sure K T2 T2 (kk + 1) from ⟨HI.out.1, .inl ⟨rfl, by omega, by have := HK.out; omega, by omega⟩⟩)
            clear HI
            go_wp2_with fail
            exact ⟨⟨kk + 1, _, by go_num, HF⟩, by simp [intOf]; omega⟩
        · have hinz : ¬ (kk : Int) < T2.size := by omega
          have hfin : keptF K p = ⟨p.n, T2.data.toList, T2.size⟩ := by
            have hS : p.text.length = T.size := HTS.out.symm
            unfold keptF
            rcases HI.out.2 with ⟨h1, h2, h3, h4⟩ | ⟨h1, h2, h3⟩
            · subst h1
              rw [hS, show p.sure + min K (T2.size - p.sure) = T2.size by omega, ← hS, List.take_length, HTL.out]
            · have hs2 : T2.size = p.sure + K := by rw [h2, ByteArray.size_extract]; omega
              rw [hS, show p.sure + min K (T.size - p.sure) = p.sure + K by omega, hs2, h2, ← take_text HTL.out]
          have HF := Lib.hid (show CW E room (.slice (some ⟨g, off, none⟩) L c) L (crashI K (k + 1) A) w (wr.setCell ⟨g, off + k * 3 + 1, none⟩ (.int .i64 (T2.size : Nat))) from by
            have := CW.put (j := 1) (u := .int .i64 (T2.size : Nat)) (q := ⟨p.n, T2.data.toList, T2.size⟩) HI.out.1 HLK.out hlt (by omega) (by simp [cells]) hneE
            rw [List.set_set, ← hfin, G2.out] at this
            exact this)
          clear HI hfin HLK
          go_wp2_with fail
          exact ⟨⟨k + 1, by omega, by go_num, HF⟩, by simp [intOf]; omega⟩
    · have hltz : ¬ (k : Int) < L := by omega
      obtain rfl : k = L := by omega
      go_wp2
      go_end0
      exact ⟨rfl, HEND.out _ HR.out⟩
end
end Go.Proofs.Ytglgbidcmkncgaa.Drw
