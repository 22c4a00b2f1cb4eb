/- Parts of the proof, joined: Subjects and filters over lists of bytes: their tokens, what is right, who takes, overlaps, covers whom; and the laws of these. No program here.; Package subject, walked: token, split, Takes. -/
import Derived.Test.YtapmhpnkpjgefaaDoorConsumerRulesUptoM1
import Derived.Lib.SplitLaws
import Derived.Test.YtapmhpnkpjgefaaDoorChecked
import Derived.Test.YtapmhpnkpjgefaaDoorShelf
namespace Go.Proofs.YtapmhpnkpjgefaaDoor.Subj

abbrev Tok := List UInt8

/-- A text's pieces between dots. -/
def pieces : List UInt8 → List Tok
  | [] => [[]]
  | b :: l => if b = 46 then [] :: pieces l else
    match pieces l with
    | p :: ps => (b :: p) :: ps
    | [] => [[b]]

theorem pieces_ne (l : List UInt8) : pieces l ≠ [] := by
  cases l with
  | nil => simp [pieces]
  | cons b l =>
    unfold pieces
    split
    · simp
    · split <;> simp

theorem pieces_len (l : List UInt8) : (pieces l).length = l.count 46 + 1 := by
  induction l with
  | nil => simp [pieces]
  | cons b l ih =>
    unfold pieces
    by_cases h : b = 46
    · rw [if_pos h, List.length_cons, ih, h]; simp
    · rw [if_neg h, List.count_cons_of_ne (by simpa using h)]
      split
      · rename_i p ps e
        rw [e] at ih
        simpa using ih
      · rename_i e
        exact absurd e (pieces_ne l)

open Go.Lib in
theorem index_dot (l : List UInt8) : (index l [46] = -1 ∧ pieces l = [l]) ∨ ∃ i : Nat, index l [46] = i ∧ i < l.length ∧ pieces l = l.take i :: pieces (l.drop (i + 1)) := by
  induction l with
  | nil => left; exact ⟨by simp [index], rfl⟩
  | cons b l ih =>
    by_cases h : b = 46
    · right
      subst h
      refine ⟨0, by rw [index]; simp [List.isPrefixOf], by simp, ?_⟩
      simp [pieces]
    · have hp : ([46] : List UInt8).isPrefixOf (b :: l) = false := by simp [List.isPrefixOf, Ne.symm h]
      have hix : index (b :: l) [46] = if index l [46] == -1 then -1 else index l [46] + 1 := by rw [index, hp]; simp
      rcases ih with ⟨h1, h2⟩ | ⟨i, h1, h2, h3⟩
      · left
        refine ⟨by rw [hix, h1]; rfl, ?_⟩
        unfold pieces
        rw [if_neg h, h2]
      · right
        refine ⟨i + 1, ?_, by simp; omega, ?_⟩
        · rw [hix, h1, if_neg (by intro e; have := beq_iff_eq.1 e; omega)]; omega
        · conv => lhs; unfold pieces
          rw [if_neg h, h3]
          simp

open Go.Lib in
theorem splitK_pieces : ∀ (k : Nat) (l : List UInt8), (pieces l).length ≤ k + 1 → splitK [46] 0 k l = pieces l
  | 0, l, h => by
    rcases index_dot l with ⟨_, h2⟩ | ⟨i, _, _, h3⟩
    · rw [h2]; rfl
    · rw [h3] at h
      have := List.length_pos_iff.2 (pieces_ne (l.drop (i + 1)))
      rw [List.length_cons] at h; omega
  | k + 1, l, h => by
    unfold splitK
    rcases index_dot l with ⟨h1, h2⟩ | ⟨i, h1, h2, h3⟩
    · rw [h1, h2]; rfl
    · rw [h1, if_neg (by intro e; have := beq_iff_eq.1 e; omega), h3]
      have := splitK_pieces k (l.drop (i + 1)) (by rw [h3] at h; simpa using h)
      rw [show ((i : Int).toNat + ([46] : List UInt8).length) = i + 1 from rfl, this]
      rfl

/-- A byte of a token. -/
def byteOk (b : UInt8) : Bool := decide (33 ≤ b.toNat) && decide (b.toNat ≤ 126) && b.toNat != 42 && b.toNat != 62

def tokenOk (t : Tok) : Bool := t.all byteOk && decide (1 ≤ t.length) && decide (t.length ≤ 16)

/-- Are all tokens right? -/
def okPieces (wild : Bool) : List Tok → Bool
  | [] => true
  | t :: ts => ((wild && (t == [42] || (t == [62] && ts.isEmpty))) || tokenOk t) && okPieces wild ts

/-- What is wrong with a subject (wild: a filter): 0: nothing; 2: too many tokens; 3: a token. -/
def err (wild : Bool) (l : List UInt8) : Nat := if 8 < (pieces l).length then 2 else if okPieces wild (pieces l) then 0 else 3

/-- Does a filter take a row of tokens? -/
def takes : List Tok → List Tok → Bool
  | [], s => s.isEmpty
  | t :: f, s => if t == [62] then !s.isEmpty else match s with
    | [] => false
    | x :: s => (t == [42] || t == x) && takes f s

end Go.Proofs.YtapmhpnkpjgefaaDoor.Subj

namespace Go.Proofs.YtapmhpnkpjgefaaDoor.Subj
open Go.RowKit

/-- The cell of the one variable that strings.Split reads. -/
def ML (w : World) : Prop := ∃ m, w.cell? ⟨0, 0, none⟩ = some (.int .i64 m)

theorem ML.below {w w' : World} (h : ML w) (hb : Below w.heap.size w w') : ML w' := by
  obtain ⟨m, hm⟩ := h
  exact ⟨m, (hb.cell (World.block_lt_of_cell? w _ hm)).trans hm⟩

/-! ### token -/

theorem list_get (s : ByteArray) (k : Nat) (h : k < s.size) : s.data.toList[k]'(by simpa using h) = s[k] := by
  rfl

theorem tokenOk_of (s : ByteArray) (h : ∀ j, (h : j < s.size) → byteOk s[j] = true) : tokenOk s.data.toList = (decide (1 ≤ s.size) && decide (s.size ≤ 16)) := by
  unfold tokenOk
  have h1 : s.data.toList.all byteOk = true := by
    rw [List.all_eq_true]
    intro b hb
    obtain ⟨j, hj, rfl⟩ := List.getElem_of_mem hb
    exact h j (by simpa using hj)
  rw [h1]
  simp

theorem tokenOk_not (s : ByteArray) (j : Nat) (hj : j < s.size) (h : byteOk s[j] = false) : tokenOk s.data.toList = false := by
  unfold tokenOk
  have h1 : s.data.toList.all byteOk = false := by
    rw [List.all_eq_false]
    exact ⟨s[j], by rw [← list_get s j hj]; exact List.getElem_mem _, by simp [h]⟩
  rw [h1]
  simp

set_option maxRecDepth 100000 in
theorem token_any (s : ByteArray) (w : World) (hs : s.size ≤ maxLen) :
    Calls Tryd.prog 57 #[.string s] w fun e w' => e = .returned (.bool (tokenOk s.data.toList)) ∧ w = w' := by
  unfold maxLen at hs
  go_enter Tryd.func57, Tryd.ntmps57
  go_wp2
  go_loop [7] (fun i => ∃ k : Nat, k ≤ s.size ∧ i = .int .i64 k ∧ Hid (∀ j, (h : j < s.size) → j < k → byteOk s[j] = true)) (fun i => s.size - (intOf i).toNat)
  case atStart => exact ⟨0, Nat.zero_le _, rfl, fun j _ h => by omega⟩
  case round =>
    obtain ⟨k, hk, rfl, H⟩ := hrel
    by_cases hlt : k < s.size
    · have hb := s[k].toNat_lt
      by_cases hok : byteOk s[k] = true
      · have hok' := hok
        unfold byteOk at hok'
        simp only [Bool.and_eq_true, decide_eq_true_eq, bne_iff_ne] at hok'
        obtain ⟨⟨⟨b1, b2⟩, b3⟩, b4⟩ := hok'
        have d3 : ((s[k].toNat : Int) == 42) = false := by simp; omega
        have d4 : ((s[k].toNat : Int) == 62) = false := by simp; omega
        have HO := Lib.hid hok
        clear hok b3 b4
        go_wp2
        refine ⟨⟨k + 1, by omega, by go_num, fun j h hj => ?_⟩, by simp [intOf]; omega⟩
        by_cases e : j = k
        · subst e; exact HO.out
        · exact H.out j h (by omega)
      · have hr := tokenOk_not s k hlt (by simpa using hok)
        have HR := Lib.hid hr; clear hr
        by_cases b1 : s[k].toNat < 33
        · go_wp2
          go_ret
          exact ⟨ret_bool HR.out.symm, rfl⟩
        · by_cases b2 : 126 < s[k].toNat
          · go_wp2
            go_ret
            exact ⟨ret_bool HR.out.symm, rfl⟩
          · by_cases b3 : s[k].toNat = 42
            · have d3 : ((s[k].toNat : Int) == 42) = true := by simp; omega
              clear b3
              go_wp2
              go_ret
              exact ⟨ret_bool HR.out.symm, rfl⟩
            · have d3 : ((s[k].toNat : Int) == 42) = false := by simp; omega
              have d4 : ((s[k].toNat : Int) == 62) = true := by
                unfold byteOk at hok
                simp at hok
                simp; omega
              clear b3 hok
              go_wp2
              go_ret
              exact ⟨ret_bool HR.out.symm, rfl⟩
    · have hr := tokenOk_of s (fun j h => H.out j h (by omega))
      have HR := Lib.hid hr; clear hr
      by_cases c1 : 1 ≤ s.size
      · by_cases c2 : s.size ≤ 16
        · have e : (decide (1 ≤ s.size) && decide (s.size ≤ 16)) = true := by simp [c1, c2]
          have E := Lib.hid e; clear e
          go_wp2
          go_ret
          refine ⟨ret_bool ?_, rfl⟩
          rw [HR.out, E.out]
          simp; omega
        · have e : (decide (1 ≤ s.size) && decide (s.size ≤ 16)) = false := by simp; omega
          have E := Lib.hid e; clear e
          go_wp2
          go_ret
          refine ⟨ret_bool ?_, rfl⟩
          rw [HR.out, E.out]
          simp; omega
      · have e : (decide (1 ≤ s.size) && decide (s.size ≤ 16)) = false := by simp; omega
        have E := Lib.hid e; clear e
        go_wp2
        go_ret
        exact ⟨ret_bool (by rw [HR.out, E.out]), rfl⟩

/-! ### split -/

/-- Text number i of a row of texts. -/
def strAt (l : List Tok) (i : Nat) : ByteArray := ⟨(l.getD i []).toArray⟩

/-- At block g, from cell off on, lie these texts. -/
def StrsAt (w : World) (g off : Nat) (l : List Tok) : Prop := ∀ i, i < l.length → w.cell? ⟨g, off + i, none⟩ = some (.string (strAt l i))

theorem StrsAt.below {w w' : World} {g off : Nat} {l : List Tok} (h : StrsAt w g off l) (hb : Below w.heap.size w w') : StrsAt w' g off l := fun i hi =>
  (hb.cell (World.block_lt_of_cell? w _ (h i hi))).trans (h i hi)

theorem StrsAt.tail {w : World} {g off : Nat} {t : Tok} {l : List Tok} (h : StrsAt w g off (t :: l)) : StrsAt w g (off + 1) l := fun i hi => by
  have := h (i + 1) (by simpa using hi)
  rw [show off + 1 + i = off + (i + 1) by omega]
  exact this

/-- What 'Split' leaves: its pieces. -/
theorem strsAt_made (w : World) (s : ByteArray) (e : TypeId) :
    StrsAt (w.alloc (.cells ((Lib.splitB ⟨#[46]⟩ 0 (Lib.countB s ⟨#[46]⟩) s).map Value.string).toArray e)) w.heap.size 0 (pieces s.data.toList) := by
  intro i hi
  have hd := Lib.splitB_data ⟨#[46]⟩ 0 (Lib.countB s ⟨#[46]⟩) s
  have hc : Lib.countB s ⟨#[46]⟩ = s.data.toList.count 46 := by
    show Lib.count s.data.toList [46] = _
    exact Lib.count_one 46 _
  have hp : Lib.splitK [46] 0 (Lib.countB s ⟨#[46]⟩) s.data.toList = pieces s.data.toList := splitK_pieces _ _ (by rw [pieces_len, hc]; omega)
  have hd' : (Lib.splitB ⟨#[46]⟩ 0 (Lib.countB s ⟨#[46]⟩) s).map (·.data.toList) = pieces s.data.toList := hd.trans hp
  generalize Lib.splitB ⟨#[46]⟩ 0 (Lib.countB s ⟨#[46]⟩) s = q at *
  rw [World.cell?_alloc_at _ _ _ _ rfl, Nat.zero_add]
  rw [← hd'] at hi ⊢
  have hi' : i < q.length := by simpa using hi
  unfold strAt
  simp [hi']

theorem countB_dot (s : ByteArray) : Lib.countB s ⟨#[46]⟩ + 1 = (pieces s.data.toList).length := by
  rw [pieces_len]
  show Lib.count s.data.toList [46] + 1 = _
  rw [Lib.count_one 46 _]

set_option maxRecDepth 100000 in
theorem split_large (s : ByteArray) (wild : Bool) (w : World) (hs : s.size ≤ 1048576) (hm : ML w) (he : 8 < (pieces s.data.toList).length) :
    Calls Tryd.prog 42 #[.string s, .bool wild] w fun e w' => e = .returned (.tuple #[.slice none 0 0, .int .i64 2]) ∧ Below w.heap.size w w' := by
  obtain ⟨m, hm⟩ := hm
  have hc := Tryd.strings_Split s ⟨#[46]⟩ m w (by omega) hm (by decide)
  rw [countB_dot] at hc
  have hb := (Below.refl w.heap.size w).alloc (Nat.le_refl _) (.cells ((Lib.splitB ⟨#[46]⟩ 0 (Lib.countB s ⟨#[46]⟩) s).map Value.string).toArray 9)
  have HC := Lib.hid hc; clear hc
  generalize w.alloc (.cells ((Lib.splitB ⟨#[46]⟩ 0 (Lib.countB s ⟨#[46]⟩) s).map Value.string).toArray 9) = W at *
  have hp : (pieces s.data.toList).length ≤ 1048577 := by
    rw [pieces_len]; have := List.count_le_length (a := 46) (l := s.data.toList); rw [show s.data.toList.length = s.size by simp] at this; omega
  generalize (pieces s.data.toList).length = n at *
  go_enter Tryd.func42, Tryd.ntmps42
  go_wp2_with fail
  refine HC.out.mono ?_
  rintro e w' ⟨rfl, rfl⟩
  go_wp2
  go_ret2
  exact ⟨rfl, hb⟩

/-- Is token number i right? -/
def okAt (wild : Bool) (l : List Tok) (i : Nat) : Bool := (wild && (l.getD i [] == [42] || (l.getD i [] == [62] && decide (i + 1 = l.length)))) || tokenOk (l.getD i [])

theorem okPieces_iff (wild : Bool) : ∀ l : List Tok, okPieces wild l = true ↔ ∀ i, i < l.length → okAt wild l i = true
  | [] => by simp [okPieces]
  | t :: ts => by
    have ih := okPieces_iff wild ts
    have h0 : okAt wild (t :: ts) 0 = ((wild && (t == [42] || (t == [62] && ts.isEmpty))) || tokenOk t) := by
      unfold okAt
      have : decide (0 + 1 = (t :: ts).length) = ts.isEmpty := by cases ts <;> simp
      rw [this]
      rfl
    have hs : ∀ i, okAt wild (t :: ts) (i + 1) = okAt wild ts i := by
      intro i
      unfold okAt
      simp
    unfold okPieces
    rw [Bool.and_eq_true, ih, ← h0]
    constructor
    · rintro ⟨h1, h2⟩ i hi
      cases i with
      | zero => exact h1
      | succ i => rw [hs]; exact h2 i (by simpa using hi)
    · intro h
      exact ⟨h 0 (by simp), fun i hi => by rw [← hs]; exact h (i + 1) (by simpa using hi)⟩

theorem strAt_toList (l : List Tok) (i : Nat) : (strAt l i).toList = l.getD i [] := by
  rw [ByteArray.toList_eq]; simp [strAt]

theorem strAt_list (l : List Tok) (i : Nat) : (strAt l i).data.toList = l.getD i [] := by simp [strAt]

/-- What 'split' answers. -/
def SplitPost (w : World) (l : List Tok) (er : Nat) (e : Ending) (w' : World) : Prop :=
  Below w.heap.size w w' ∧ ((er = 0 ∧ e = .returned (.tuple #[.slice (some ⟨w.heap.size, 0, none⟩) l.length l.length, .int .i64 0]) ∧ StrsAt w' w.heap.size 0 l) ∨
    (er ≠ 0 ∧ e = .returned (.tuple #[.slice none 0 0, .int .i64 er])))

theorem pieces_size (s : ByteArray) (hs : s.size ≤ 1048576) : (pieces s.data.toList).length ≤ 1048577 := by
  rw [pieces_len]; have := List.count_le_length (a := 46) (l := s.data.toList); rw [show s.data.toList.length = s.size by simp] at this; omega

theorem pieces_each (s : List UInt8) : ∀ i, ((pieces s).getD i []).length ≤ s.length := by
  induction s with
  | nil => intro i; cases i <;> simp [pieces]
  | cons b s ih =>
    intro i
    unfold pieces
    split
    · cases i with
      | zero => simp
      | succ i => have := ih i; simp only [List.getD_cons_succ, List.length_cons]; omega
    · split
      · rename_i p ps e
        rw [e] at ih
        cases i with
        | zero => have := ih 0; simpa using this
        | succ i => have := ih (i + 1); simp only [List.getD_cons_succ, List.length_cons] at this ⊢; omega
      · cases i <;> simp

set_option maxRecDepth 100000 in
theorem split_any (s : ByteArray) (wild : Bool) (w : World) (hs : s.size ≤ 1048576) (hm : ML w) :
    Calls Tryd.prog 42 #[.string s, .bool wild] w (SplitPost w (pieces s.data.toList) (err wild s.data.toList)) := by
  by_cases he : 8 < (pieces s.data.toList).length
  · refine (split_large s wild w hs hm he).mono ?_
    rintro e w' ⟨rfl, hb⟩
    have : err wild s.data.toList = 2 := by unfold err; rw [if_pos he]
    rw [this]
    exact ⟨hb, .inr ⟨by decide, rfl⟩⟩
  obtain ⟨m, hm⟩ := hm
  have hc := Tryd.strings_Split s ⟨#[46]⟩ m w (by omega) hm (by decide)
  rw [countB_dot] at hc
  have hb := (Below.refl w.heap.size w).alloc (Nat.le_refl _) (.cells ((Lib.splitB ⟨#[46]⟩ 0 (Lib.countB s ⟨#[46]⟩) s).map Value.string).toArray 9)
  have hst := strsAt_made w s 9
  have herr : err wild s.data.toList = if okPieces wild (pieces s.data.toList) then 0 else 3 := by unfold err; rw [if_neg he]
  obtain ⟨er, her⟩ : ∃ er, err wild s.data.toList = er := ⟨_, rfl⟩
  rw [her]
  rw [herr] at her
  have hsz : ∀ i, (strAt (pieces s.data.toList) i).size ≤ maxLen := fun i => by
    have := pieces_each s.data.toList i
    have h2 : (strAt (pieces s.data.toList) i).size = ((pieces s.data.toList).getD i []).length := by
      show ((pieces s.data.toList).getD i []).toArray.size = _; simp
    rw [h2]
    have h3 : s.data.toList.length = s.size := by simp
    unfold maxLen; omega
  generalize w.alloc (.cells ((Lib.splitB ⟨#[46]⟩ 0 (Lib.countB s ⟨#[46]⟩) s).map Value.string).toArray 9) = W at *
  generalize pieces s.data.toList = l at *
  obtain ⟨n, hn⟩ : ∃ n, l.length = n := ⟨_, rfl⟩
  rw [hn] at hc he
  have HC := Lib.hid hc
  have HST := Lib.hid hst
  have HSZ := Lib.hid hsz
  have HN := Lib.hid hn
  have HER := Lib.hid her
  clear hc hst hsz hn herr her
  go_enter Tryd.func42, Tryd.ntmps42
  go_wp2_with fail
  refine HC.out.mono ?_
  rintro e w' ⟨rfl, rfl⟩
  go_wp2
  go_loop [16] (fun i => ∃ k : Nat, k ≤ n ∧ i = .int .i64 k ∧ Hid (∀ j, j < k → okAt wild l j = true)) (fun i => n - (intOf i).toNat)
  case atStart => exact ⟨0, Nat.zero_le _, rfl, fun j h => by omega⟩
  case round =>
    obtain ⟨k, hk, rfl, HK⟩ := hrel
    by_cases hlt : k < n
    · have hcell := HST.out k (by rw [HN.out]; exact hlt)
      rw [Nat.zero_add] at hcell
      have htok := token_any (strAt l k) w' (HSZ.out k)
      rw [strAt_list] at htok
      have hdef : okAt wild l k = ((wild && (l.getD k [] == [42] || (l.getD k [] == [62] && decide (k + 1 = n)))) || tokenOk (l.getD k [])) := by unfold okAt; rw [HN.out]
      have htl := strAt_toList l k
      have HT := Lib.hid htok; clear htok
      have HD := Lib.hid hdef; clear hdef
      have HL := Lib.hid htl; clear htl
      -- the round's end where the token is right
      have hnext : okAt wild l k = true → ∃ k' : Nat, k' ≤ n ∧ Value.int .i64 ((k : Int) + 1) = .int .i64 k' ∧ Hid (∀ j, j < k' → okAt wild l j = true) := fun h =>
        ⟨k + 1, by omega, by go_num, fun j hj => by
          by_cases e : j = k
          · subst e; exact h
          · exact HK.out j (by omega)⟩
      have HX := Lib.hid hnext; clear hnext
      have hlast : ((k : Int) == (n : Int) - 1) = decide (k + 1 = n) := by
        rw [Bool.eq_iff_iff]; simp; omega
      have HLa := Lib.hid hlast; clear hlast
      have hbad : okAt wild l k = false → okPieces wild l = false := fun h => by
        cases ho : okPieces wild l with
        | false => rfl
        | true => rw [okPieces_iff] at ho; rw [ho k (by rw [HN.out]; exact hlt)] at h; cases h
      have HB := Lib.hid hbad; clear hbad
      cases wild with
      | false =>
        have hd := HD.out
        simp only [Bool.false_and, Bool.false_or] at hd
        by_cases hok : tokenOk (l.getD k []) = true
        · have HO := Lib.hid hok
          clear hok hd
          go_wp2_with fail
          refine HT.out.mono ?_
          rw [HO.out]
          rintro e w'' ⟨rfl, rfl⟩
          go_wp2
          exact ⟨HX.out (by rw [HD.out, HO.out]; rfl), by simp [intOf]; omega⟩
        · have hok' : tokenOk (l.getD k []) = false := by simpa using hok
          have HO := Lib.hid hok'
          clear hok hok' hd
          go_wp2_with fail
          refine HT.out.mono ?_
          rw [HO.out]
          rintro e w'' ⟨rfl, rfl⟩
          go_wp2
          go_ret2
          have h3 : er = 3 := by
            rw [← HER.out, HB.out (by rw [HD.out, HO.out]; rfl)]; rfl
          subst h3
          exact ⟨hb, .inr ⟨by decide, rfl⟩⟩
      | true =>
        by_cases c1 : l.getD k [] = [42]
        · have hok : okAt true l k = true := by rw [HD.out, c1]; rfl
          have d1 : (strAt l k).toList = [42] := by rw [HL.out, c1]
          have HO := Lib.hid hok
          have d2 : ((strAt l k).toList == [42]) = true := by simp [d1]
          clear hok c1
          go_wp2
          exact ⟨HX.out HO.out, by simp [intOf]; omega⟩
        · have d1 : ¬ (strAt l k).toList = [42] := by rw [HL.out]; exact c1
          have d2 : ((strAt l k).toList == [42]) = false := by simp [d1]
          have C1 := Lib.hid c1; clear c1
          by_cases c2 : l.getD k [] = [62]
          · have d3 : (strAt l k).toList = [62] := by rw [HL.out, c2]
            have d4 : ((strAt l k).toList == [62]) = true := by simp [d3]
            have C2 := Lib.hid c2; clear c2
            by_cases c3 : k + 1 = n
            · have hla : ((k : Int) == (n : Int) - 1) = true := by rw [HLa.out]; simpa using c3
              have C3 := Lib.hid c3; clear c3
              go_wp2
              refine ⟨HX.out ?_, by simp [intOf]; omega⟩
              rw [HD.out, C2.out]
              have := C3.out
              simp [this]
            · have hla : ((k : Int) == (n : Int) - 1) = false := by rw [HLa.out]; simpa using c3
              have C3 := Lib.hid c3; clear c3
              have HO : Hid (tokenOk (l.getD k []) = false) := by show _ = _; rw [C2.out]; decide
              go_wp2_with fail
              refine HT.out.mono ?_
              rw [HO.out]
              rintro e w'' ⟨rfl, rfl⟩
              go_wp2
              go_ret2
              have h3 : er = 3 := by
                rw [← HER.out, HB.out (by rw [HD.out, HO.out, C2.out]; have := C3.out; simp [this])]; rfl
              subst h3
              exact ⟨hb, .inr ⟨by decide, rfl⟩⟩
          · have d3 : ¬ (strAt l k).toList = [62] := by rw [HL.out]; exact c2
            have d4 : ((strAt l k).toList == [62]) = false := by simp [d3]
            have C2 := Lib.hid c2; clear c2
            by_cases hok : tokenOk (l.getD k []) = true
            · have HO := Lib.hid hok
              clear hok
              go_wp2_with fail
              refine HT.out.mono ?_
              rw [HO.out]
              rintro e w'' ⟨rfl, rfl⟩
              go_wp2
              exact ⟨HX.out (by rw [HD.out, HO.out]; simp), by simp [intOf]; omega⟩
            · have hok' : tokenOk (l.getD k []) = false := by simpa using hok
              have HO := Lib.hid hok'
              clear hok hok'
              go_wp2_with fail
              refine HT.out.mono ?_
              rw [HO.out]
              rintro e w'' ⟨rfl, rfl⟩
              go_wp2
              go_ret2
              have h3 : er = 3 := by
                rw [← HER.out, HB.out (by rw [HD.out, HO.out, beq_eq_false_iff_ne.2 C1.out, beq_eq_false_iff_ne.2 C2.out]; rfl)]; rfl
              subst h3
              exact ⟨hb, .inr ⟨by decide, rfl⟩⟩
    · have hall : okPieces wild l = true := by
        rw [okPieces_iff]
        intro i hi
        rw [HN.out] at hi
        exact HK.out i (by omega)
      have h0 : er = 0 := by rw [← HER.out, hall]; rfl
      have H0 := Lib.hid h0; clear hall h0
      go_wp2
      go_ret2
      refine ⟨hb, .inl ⟨H0.out, ?_, HST.out⟩⟩
      rw [HN.out]
      rfl
end Go.Proofs.YtapmhpnkpjgefaaDoor.Subj
