/- Parts of the proof, joined: Records over lists of bytes: what is right, how they are written and read; that what is written is read, and what is read is what is written. No program here.; A log on a disk in plain Lean: what Open tells and leaves, Append, Rewrite. No program here.; Package subject, walked: token, split, Takes.; Package subject, walked: Takes, Subject, Filter, Match, Overlap, Covers.; rillref.Pieces, walked.; rillref.tokens, Subject, Filter, walked.; rillref.Subject, Filter, walked; and these and subject's as calls that keep. -/
import Derived.Test.YtbgchhgdlceceaaGreatDoorStrmBaseM2
import Derived.Test.YtbgchhgdlceceaaGreatDoorChecked
import Derived.Test.YtbgchhgdlceceaaGreatDoorShelf
import Derived.RangeFuncBox
namespace Go.Proofs.YtbgchhgdlceceaaGreatDoor.Rec
open Subj Pack Crc

structure Rc where
  kind : Int
  seq : Int
  time : Int
  subj : List UInt8
  head : List UInt8
  data : List UInt8

def Rc.zero : Rc := ⟨0, 0, 0, [], [], []⟩

def far : Int := 1099511627776

/-- What is wrong with a record. -/
def recErr (r : Rc) : Nat :=
  if r.kind < 1 ∨ 4 < r.kind ∨ r.seq < 1 ∨ far < r.seq ∨ r.time < 0 ∨ far < r.time then 1
  else if r.kind = 1 then if err false r.subj ≠ 0 then err false r.subj else if 256 < r.head.length + r.data.length then 2 else 0
  else if r.kind = 3 then if err true r.subj ≠ 0 then err true r.subj else if r.head = [] ∧ r.data = [] then 0 else 1
  else if r.subj = [] ∧ r.head = [] ∧ r.data = [] then 0 else 1

def bodyL (r : Rc) : List UInt8 := UInt8.ofNat r.kind.toNat :: (numL r.seq.toNat ++ (numL r.time.toNat ++ (textL r.subj ++ (textL r.head ++ textL r.data))))

/-- A number's four bytes. -/
def le4 (c : Nat) : List UInt8 := [UInt8.ofNat (c % 256), UInt8.ofNat (c / 256 % 256), UInt8.ofNat (c / 65536 % 256), UInt8.ofNat (c / 16777216 % 256)]
def sum4 (l : List UInt8) : List UInt8 := le4 (crcL l).toNat

def codedL (r : Rc) : List UInt8 := textL (bodyL r) ++ sum4 (bodyL r)

/-- What is left behind a number, behind a text. -/
def fB (l : List UInt8) : List UInt8 := l.drop (rdN l).2.1
def fT (l : List UInt8) : List UInt8 := l.drop (rdT l 1024).2.1

/-- The fields behind the kind: the record, what is left, is all right? -/
def fields (kind : Int) (l : List UInt8) : Rc × List UInt8 × Bool :=
  (⟨kind, (rdN l).1, (rdN (fB l)).1, (rdT (fB (fB l)) 1024).1, (rdT (fT (fB (fB l))) 1024).1, (rdT (fT (fT (fB (fB l)))) 1024).1⟩,
    fT (fT (fT (fB (fB l)))),
    (rdN l).2.2 == 0 && (rdN (fB l)).2.2 == 0 && (rdT (fB (fB l)) 1024).2.2 == 0 && (rdT (fT (fB (fB l))) 1024).2.2 == 0 && (rdT (fT (fT (fB (fB l)))) 1024).2.2 == 0)

/-- The record of a body whose sum is right. -/
def bodyR (k : UInt8) (rest : List UInt8) (n : Nat) : Rc × Nat × Nat :=
  if (fields k.toNat rest).2.2 = true ∧ (fields k.toNat rest).2.1 = [] ∧ recErr (fields k.toNat rest).1 = 0 then ((fields k.toNat rest).1, n, 0) else (Rc.zero, 0, 7)

/-- A record that is read: it, its bytes, what is wrong. -/
def decL (s : List UInt8) : Rc × Nat × Nat :=
  if (rdT s 1024).2.2 ≠ 0 then (Rc.zero, 0, (rdT s 1024).2.2)
  else if s.length < (rdT s 1024).2.1 + 4 then (Rc.zero, 0, 6)
  else match (rdT s 1024).1 with
    | [] => (Rc.zero, 0, 7)
    | k :: rest => if (s.drop (rdT s 1024).2.1).take 4 ≠ sum4 (k :: rest) then (Rc.zero, 0, 7) else bodyR k rest ((rdT s 1024).2.1 + 4)

/-! ### Sizes -/

theorem pieces_sum (l : List UInt8) : l.length + 1 = ((pieces l).map (fun t => t.length + 1)).sum := by
  induction l with
  | nil => simp [pieces]
  | cons b l ih =>
    unfold pieces
    split
    · simp; omega
    · split
      · rename_i p ps e
        rw [e] at ih
        simp at ih ⊢; omega
      · rename_i e
        exact absurd e (pieces_ne l)

theorem sum_le (L : List Tok) (h : ∀ t ∈ L, t.length ≤ 16) : (L.map (fun t => t.length + 1)).sum ≤ 17 * L.length := by
  induction L with
  | nil => simp
  | cons t L ih =>
    have h1 := h t (by simp)
    have h2 := ih (fun t ht => h t (by simp [ht]))
    simp; omega

theorem okPieces_len (wild : Bool) : ∀ L : List Tok, okPieces wild L = true → ∀ t ∈ L, t.length ≤ 16
  | [], _, t, ht => by cases ht
  | x :: L, h, t, ht => by
    simp only [okPieces, Bool.and_eq_true] at h
    rcases List.mem_cons.1 ht with rfl | ht
    · rcases Bool.or_eq_true_iff.1 h.1 with h1 | h1
      · simp only [Bool.and_eq_true, Bool.or_eq_true, beq_iff_eq] at h1
        rcases h1.2 with h2 | h2
        · rw [h2]; decide
        · rw [h2.1]; decide
      · simp only [tokenOk, Bool.and_eq_true, decide_eq_true_eq] at h1
        exact h1.2
    · exact okPieces_len wild L h.2 t ht

theorem err_len {wild : Bool} {l : List UInt8} (h : err wild l = 0) : l.length ≤ 135 := by
  unfold err at h
  split at h
  · cases h
  · split at h
    · rename_i h1 h2
      have h3 := pieces_sum l
      have h4 := sum_le _ (okPieces_len wild _ h2)
      omega
    · cases h

theorem textL_len (t : List UInt8) : t.length + 1 ≤ (textL t).length ∧ (textL t).length ≤ t.length + 9 := by
  have h1 := numL_len t.length
  have h2 := numF_pos 8 t.length
  have h3 : (numL t.length).length = (numF (8 + 1) t.length).length := rfl
  unfold textL
  simp only [List.length_append]
  omega

theorem recErr_sizes {r : Rc} (h : recErr r = 0) : 1 ≤ r.kind ∧ r.kind ≤ 4 ∧ 1 ≤ r.seq ∧ r.seq ≤ far ∧ 0 ≤ r.time ∧ r.time ≤ far ∧ r.subj.length ≤ 135 ∧ r.head.length + r.data.length ≤ 256 := by
  unfold recErr at h
  split at h
  · cases h
  · rename_i h0
    simp only [not_or, Int.not_lt] at h0
    obtain ⟨a, b, c, d, e, f⟩ := h0
    refine ⟨a, b, c, d, e, f, ?_⟩
    split at h
    · split at h
      · rename_i h1; exact absurd h h1
      · rename_i h1
        split at h
        · cases h
        · rename_i h2
          exact ⟨err_len (by simpa using h1), by omega⟩
    · split at h
      · split at h
        · rename_i h1; exact absurd h h1
        · rename_i h1
          split at h
          · rename_i h2
            exact ⟨err_len (by simpa using h1), by rw [h2.1, h2.2]; decide⟩
          · cases h
      · split at h
        · rename_i h2
          rw [h2.1, h2.2.1, h2.2.2]; decide
        · cases h

theorem bodyL_len {r : Rc} (h : recErr r = 0) : 6 ≤ (bodyL r).length ∧ (bodyL r).length ≤ 1024 := by
  obtain ⟨_, _, _, _, _, _, h1, h2⟩ := recErr_sizes h
  have t1 := textL_len r.subj
  have t2 := textL_len r.head
  have t3 := textL_len r.data
  have n1 := numL_len r.seq.toNat
  have n2 := numL_len r.time.toNat
  have p1 : 0 < (numL r.seq.toNat).length := numF_pos 8 _
  have p2 : 0 < (numL r.time.toNat).length := numF_pos 8 _
  unfold bodyL
  simp only [List.length_cons, List.length_append]
  omega

/-! ### What is written is read -/

theorem drop_len (a b : List UInt8) : (a ++ b).drop a.length = b := by simp

theorem fields_body {r : Rc} (h : recErr r = 0) : fields (UInt8.ofNat r.kind.toNat).toNat (numL r.seq.toNat ++ (numL r.time.toNat ++ (textL r.subj ++ (textL r.head ++ textL r.data)))) = (r, [], true) := by
  obtain ⟨h1, h2, h3, h4, h5, h6, h7, h8⟩ := recErr_sizes h
  unfold far at h4 h6
  have hk : ((UInt8.ofNat r.kind.toNat).toNat : Int) = r.kind := by
    rw [ofNat_toNat_lt _ (by omega)]; omega
  have e1 := rdN_num r.seq.toNat (numL r.time.toNat ++ (textL r.subj ++ (textL r.head ++ textL r.data))) (by omega)
  have e2 := rdN_num r.time.toNat (textL r.subj ++ (textL r.head ++ textL r.data)) (by omega)
  have e3 := rdT_text r.subj (textL r.head ++ textL r.data) 1024 (by omega) (by omega)
  have e4 := rdT_text r.head (textL r.data) 1024 (by omega) (by omega)
  have e5 := rdT_text r.data [] 1024 (by omega) (by omega)
  rw [List.append_nil] at e5
  unfold fields fB fT
  have d5 : (textL r.data).drop (textL r.data).length = [] := by simp
  have s1 : ((r.seq.toNat : Nat) : Int) = r.seq := by omega
  have s2 : ((r.time.toNat : Nat) : Int) = r.time := by omega
  simp only [e1, e2, e3, e4, e5, drop_len, d5, hk, s1, s2]
  rfl

theorem sum4_len (l : List UInt8) : (sum4 l).length = 4 := rfl

theorem decL_coded {r : Rc} (h : recErr r = 0) (more : List UInt8) : decL (codedL r ++ more) = (r, (codedL r).length, 0) := by
  obtain ⟨h1, h2⟩ := bodyL_len h
  have e := rdT_text (bodyL r) (sum4 (bodyL r) ++ more) 1024 (by omega) (by omega)
  unfold decL codedL
  rw [List.append_assoc, e]
  have hl : (textL (bodyL r) ++ (sum4 (bodyL r) ++ more)).length = (textL (bodyL r)).length + 4 + more.length := by
    simp only [List.length_append, sum4_len]; omega
  have hd : (textL (bodyL r) ++ (sum4 (bodyL r) ++ more)).drop (textL (bodyL r)).length = sum4 (bodyL r) ++ more := drop_len _ _
  have ht : (sum4 (bodyL r) ++ more).take 4 = sum4 (bodyL r) := by
    rw [← sum4_len (bodyL r)]; exact List.take_left
  have hf := fields_body h
  have hb : bodyL r = UInt8.ofNat r.kind.toNat :: (numL r.seq.toNat ++ (numL r.time.toNat ++ (textL r.subj ++ (textL r.head ++ textL r.data)))) := rfl
  simp only [ne_eq, not_true_eq_false, if_false, hl, hd, ht]
  rw [if_neg (by omega)]
  generalize numL r.seq.toNat ++ (numL r.time.toNat ++ (textL r.subj ++ (textL r.head ++ textL r.data))) = rest at *
  rw [hb]
  simp only [bodyR, not_true_eq_false, if_false, hf, and_self, if_true, h, List.length_append, sum4_len]

theorem decL_front {r : Rc} (h : recErr r = 0) (j : Nat) (hj : j < (codedL r).length) : decL ((codedL r).take j) = (Rc.zero, 0, 6) := by
  obtain ⟨h1, h2⟩ := bodyL_len h
  have hcl : (codedL r).length = (textL (bodyL r)).length + 4 := by unfold codedL; rw [List.length_append, sum4_len]
  by_cases hlt : j < (textL (bodyL r)).length
  · have e := rdT_front (bodyL r) 1024 j (by omega) (by omega) hlt
    unfold decL codedL
    rw [List.take_append_of_le_length (by omega), e]
    rfl
  · have he : (codedL r).take j = textL (bodyL r) ++ (sum4 (bodyL r)).take (j - (textL (bodyL r)).length) := by
      unfold codedL
      rw [List.take_append, List.take_of_length_le (by omega)]
    have e := rdT_text (bodyL r) ((sum4 (bodyL r)).take (j - (textL (bodyL r)).length)) 1024 (by omega) (by omega)
    unfold decL
    rw [he, e]
    have hl : (textL (bodyL r) ++ (sum4 (bodyL r)).take (j - (textL (bodyL r)).length)).length = j := by
      rw [List.length_append, List.length_take, sum4_len]; omega
    simp only [ne_eq, not_true_eq_false, if_false, hl]
    rw [if_pos (by omega)]

/-! ### What is read is what is written -/

end Go.Proofs.YtbgchhgdlceceaaGreatDoor.Rec

namespace Go.Proofs.YtbgchhgdlceceaaGreatDoor.Log
open Dsk Rec

/-- A block's records, and how many bytes they have. -/
def scanF : Nat → List UInt8 → List Rc × Nat
  | 0, _ => ([], 0)
  | f + 1, s => if s = [] then ([], 0) else if (decL s).2.2 ≠ 0 then ([], 0)
    else ((decL s).1 :: (scanF f (s.drop (decL s).2.1)).1, (decL s).2.1 + (scanF f (s.drop (decL s).2.1)).2)

def scan (s : List UInt8) : List Rc × Nat := scanF s.length s

def openD : List FileP → List Rc × List FileP
  | [] => ([], [])
  | p :: r =>
    if (scan p.text).2 < p.text.length then ((scan p.text).1, [⟨p.n, p.text.take (scan p.text).2, (scan p.text).2⟩])
    else ((scan p.text).1 ++ (openD r).1, p :: (openD r).2)

/-- The last block and its bytes. -/
def lastD (A : List FileP) : Int × Nat := match A.getLast? with
  | none => (-1, 0)
  | some p => (p.n, p.text.length)

def putD (room size : Int) (A : List FileP) (s : List UInt8) : List FileP × Nat :=
  match A.getLast? with
  | none => appD room A 0 s
  | some p => if 0 < p.text.length ∧ size < p.text.length + s.length then appD room (syncD A p.n).1 (p.n + 1) s else appD room A p.n s

def logD (room size : Int) (A : List FileP) (r : Rc) : List FileP × Nat :=
  if recErr r ≠ 0 then (A, recErr r) else putD room size A (codedL r)

def syncL (A : List FileP) : List FileP := match A.getLast? with
  | none => A
  | some p => (syncD A p.n).1

def textsL (rs : List Rc) : List UInt8 := rs.flatMap codedL

/-- The first error among some records. -/
def errL : List Rc → Nat
  | [] => 0
  | r :: l => if recErr r ≠ 0 then recErr r else errL l

def rewD (room size : Int) (A : List FileP) (rs : List Rc) : List FileP × Nat :=
  if errL rs ≠ 0 then (A, errL rs)
  else if 1 < rs.length ∧ size < (textsL rs).length then (A, 8)
  else
    let n := (lastD A).1 + 1
    if (appD room A n (textsL rs)).2 ≠ 0 then (A, (appD room A n (textsL rs)).2) else ([⟨n, textsL rs, (textsL rs).length⟩], 0)
end Go.Proofs.YtbgchhgdlceceaaGreatDoor.Log

namespace Go.Proofs.YtbgchhgdlceceaaGreatDoor.Subj
open Go.RowKit

/-- The cell of the one variable that strings.Split reads. -/
def ML (w : World) : Prop := ∃ m, w.cell? ⟨0, 0, none⟩ = some (.int .i64 m)

theorem ML.below {w w' : World} (h : ML w) (hb : Below w.heap.size w w') : ML w' := by
  obtain ⟨m, hm⟩ := h
  exact ⟨m, (hb.cell (World.block_lt_of_cell? w _ hm)).trans hm⟩

/-! ### token -/

theorem list_get (s : ByteArray) (k : Nat) (h : k < s.size) : s.data.toList[k]'(by simpa using h) = s[k] := by
  rfl

theorem tokenOk_of (s : ByteArray) (h : ∀ j, (h : j < s.size) → byteOk s[j] = true) : tokenOk s.data.toList = (decide (1 ≤ s.size) && decide (s.size ≤ 16)) := by
  unfold tokenOk
  have h1 : s.data.toList.all byteOk = true := by
    rw [List.all_eq_true]
    intro b hb
    obtain ⟨j, hj, rfl⟩ := List.getElem_of_mem hb
    exact h j (by simpa using hj)
  rw [h1]
  simp

theorem tokenOk_not (s : ByteArray) (j : Nat) (hj : j < s.size) (h : byteOk s[j] = false) : tokenOk s.data.toList = false := by
  unfold tokenOk
  have h1 : s.data.toList.all byteOk = false := by
    rw [List.all_eq_false]
    exact ⟨s[j], by rw [← list_get s j hj]; exact List.getElem_mem _, by simp [h]⟩
  rw [h1]
  simp

set_option maxRecDepth 100000 in
theorem token_any (s : ByteArray) (w : World) (hs : s.size ≤ maxLen) :
    Calls Tryz.prog 233 #[.string s] w fun e w' => e = .returned (.bool (tokenOk s.data.toList)) ∧ w = w' := by
  unfold maxLen at hs
  go_enter Tryz.func233, Tryz.ntmps233
  go_wp2
  go_loop [7] (fun i => ∃ k : Nat, k ≤ s.size ∧ i = .int .i64 k ∧ Hid (∀ j, (h : j < s.size) → j < k → byteOk s[j] = true)) (fun i => s.size - (intOf i).toNat)
  case atStart => exact ⟨0, Nat.zero_le _, rfl, fun j _ h => by omega⟩
  case round =>
    obtain ⟨k, hk, rfl, H⟩ := hrel
    by_cases hlt : k < s.size
    · have hb := s[k].toNat_lt
      by_cases hok : byteOk s[k] = true
      · have hok' := hok
        unfold byteOk at hok'
        simp only [Bool.and_eq_true, decide_eq_true_eq, bne_iff_ne] at hok'
        obtain ⟨⟨⟨b1, b2⟩, b3⟩, b4⟩ := hok'
        have d3 : ((s[k].toNat : Int) == 42) = false := by simp; omega
        have d4 : ((s[k].toNat : Int) == 62) = false := by simp; omega
        have HO := Lib.hid hok
        clear hok b3 b4
        go_wp2
        refine ⟨⟨k + 1, by omega, by go_num, fun j h hj => ?_⟩, by simp [intOf]; omega⟩
        by_cases e : j = k
        · subst e; exact HO.out
        · exact H.out j h (by omega)
      · have hr := tokenOk_not s k hlt (by simpa using hok)
        have HR := Lib.hid hr; clear hr
        by_cases b1 : s[k].toNat < 33
        · go_wp2
          go_ret
          exact ⟨ret_bool HR.out.symm, rfl⟩
        · by_cases b2 : 126 < s[k].toNat
          · go_wp2
            go_ret
            exact ⟨ret_bool HR.out.symm, rfl⟩
          · by_cases b3 : s[k].toNat = 42
            · have d3 : ((s[k].toNat : Int) == 42) = true := by simp; omega
              clear b3
              go_wp2
              go_ret
              exact ⟨ret_bool HR.out.symm, rfl⟩
            · have d3 : ((s[k].toNat : Int) == 42) = false := by simp; omega
              have d4 : ((s[k].toNat : Int) == 62) = true := by
                unfold byteOk at hok
                simp at hok
                simp; omega
              clear b3 hok
              go_wp2
              go_ret
              exact ⟨ret_bool HR.out.symm, rfl⟩
    · have hr := tokenOk_of s (fun j h => H.out j h (by omega))
      have HR := Lib.hid hr; clear hr
      by_cases c1 : 1 ≤ s.size
      · by_cases c2 : s.size ≤ 16
        · have e : (decide (1 ≤ s.size) && decide (s.size ≤ 16)) = true := by simp [c1, c2]
          have E := Lib.hid e; clear e
          go_wp2
          go_ret
          refine ⟨ret_bool ?_, rfl⟩
          rw [HR.out, E.out]
          simp; omega
        · have e : (decide (1 ≤ s.size) && decide (s.size ≤ 16)) = false := by simp; omega
          have E := Lib.hid e; clear e
          go_wp2
          go_ret
          refine ⟨ret_bool ?_, rfl⟩
          rw [HR.out, E.out]
          simp; omega
      · have e : (decide (1 ≤ s.size) && decide (s.size ≤ 16)) = false := by simp; omega
        have E := Lib.hid e; clear e
        go_wp2
        go_ret
        exact ⟨ret_bool (by rw [HR.out, E.out]), rfl⟩

/-! ### split -/

/-- Text number i of a row of texts. -/
def strAt (l : List Tok) (i : Nat) : ByteArray := ⟨(l.getD i []).toArray⟩

/-- At block g, from cell off on, lie these texts. -/
def StrsAt (w : World) (g off : Nat) (l : List Tok) : Prop := ∀ i, i < l.length → w.cell? ⟨g, off + i, none⟩ = some (.string (strAt l i))

theorem StrsAt.below {w w' : World} {g off : Nat} {l : List Tok} (h : StrsAt w g off l) (hb : Below w.heap.size w w') : StrsAt w' g off l := fun i hi =>
  (hb.cell (World.block_lt_of_cell? w _ (h i hi))).trans (h i hi)

theorem StrsAt.tail {w : World} {g off : Nat} {t : Tok} {l : List Tok} (h : StrsAt w g off (t :: l)) : StrsAt w g (off + 1) l := fun i hi => by
  have := h (i + 1) (by simpa using hi)
  rw [show off + 1 + i = off + (i + 1) by omega]
  exact this

/-- What 'Split' leaves: its pieces. -/
theorem strsAt_made (w : World) (s : ByteArray) (e : TypeId) :
    StrsAt (w.alloc (.cells ((Lib.splitB ⟨#[46]⟩ 0 (Lib.countB s ⟨#[46]⟩) s).map Value.string).toArray e)) w.heap.size 0 (pieces s.data.toList) := by
  intro i hi
  have hd := Lib.splitB_data ⟨#[46]⟩ 0 (Lib.countB s ⟨#[46]⟩) s
  have hc : Lib.countB s ⟨#[46]⟩ = s.data.toList.count 46 := by
    show Lib.count s.data.toList [46] = _
    exact Lib.count_one 46 _
  have hp : Lib.splitK [46] 0 (Lib.countB s ⟨#[46]⟩) s.data.toList = pieces s.data.toList := splitK_pieces _ _ (by rw [pieces_len, hc]; omega)
  have hd' : (Lib.splitB ⟨#[46]⟩ 0 (Lib.countB s ⟨#[46]⟩) s).map (·.data.toList) = pieces s.data.toList := hd.trans hp
  generalize Lib.splitB ⟨#[46]⟩ 0 (Lib.countB s ⟨#[46]⟩) s = q at *
  rw [World.cell?_alloc_at _ _ _ _ rfl, Nat.zero_add]
  rw [← hd'] at hi ⊢
  have hi' : i < q.length := by simpa using hi
  unfold strAt
  simp [hi']

theorem countB_dot (s : ByteArray) : Lib.countB s ⟨#[46]⟩ + 1 = (pieces s.data.toList).length := by
  rw [pieces_len]
  show Lib.count s.data.toList [46] + 1 = _
  rw [Lib.count_one 46 _]

set_option maxRecDepth 100000 in
theorem split_large (s : ByteArray) (wild : Bool) (w : World) (hs : s.size ≤ 1048576) (hm : ML w) (he : 8 < (pieces s.data.toList).length) :
    Calls Tryz.prog 206 #[.string s, .bool wild] w fun e w' => e = .returned (.tuple #[.slice none 0 0, .int .i64 2]) ∧ Below w.heap.size w w' := by
  obtain ⟨m, hm⟩ := hm
  have hc := Tryz.strings_Split s ⟨#[46]⟩ m w (by omega) hm (by decide)
  rw [countB_dot] at hc
  have hb := (Below.refl w.heap.size w).alloc (Nat.le_refl _) (.cells ((Lib.splitB ⟨#[46]⟩ 0 (Lib.countB s ⟨#[46]⟩) s).map Value.string).toArray 9)
  have HC := Lib.hid hc; clear hc
  generalize w.alloc (.cells ((Lib.splitB ⟨#[46]⟩ 0 (Lib.countB s ⟨#[46]⟩) s).map Value.string).toArray 9) = W at *
  have hp : (pieces s.data.toList).length ≤ 1048577 := by
    rw [pieces_len]; have := List.count_le_length (a := 46) (l := s.data.toList); rw [show s.data.toList.length = s.size by simp] at this; omega
  generalize (pieces s.data.toList).length = n at *
  go_enter Tryz.func206, Tryz.ntmps206
  go_wp2_with fail
  refine HC.out.mono ?_
  rintro e w' ⟨rfl, rfl⟩
  go_wp2
  go_ret2
  exact ⟨rfl, hb⟩

/-- Is token number i right? -/
def okAt (wild : Bool) (l : List Tok) (i : Nat) : Bool := (wild && (l.getD i [] == [42] || (l.getD i [] == [62] && decide (i + 1 = l.length)))) || tokenOk (l.getD i [])

theorem okPieces_iff (wild : Bool) : ∀ l : List Tok, okPieces wild l = true ↔ ∀ i, i < l.length → okAt wild l i = true
  | [] => by simp [okPieces]
  | t :: ts => by
    have ih := okPieces_iff wild ts
    have h0 : okAt wild (t :: ts) 0 = ((wild && (t == [42] || (t == [62] && ts.isEmpty))) || tokenOk t) := by
      unfold okAt
      have : decide (0 + 1 = (t :: ts).length) = ts.isEmpty := by cases ts <;> simp
      rw [this]
      rfl
    have hs : ∀ i, okAt wild (t :: ts) (i + 1) = okAt wild ts i := by
      intro i
      unfold okAt
      simp
    unfold okPieces
    rw [Bool.and_eq_true, ih, ← h0]
    constructor
    · rintro ⟨h1, h2⟩ i hi
      cases i with
      | zero => exact h1
      | succ i => rw [hs]; exact h2 i (by simpa using hi)
    · intro h
      exact ⟨h 0 (by simp), fun i hi => by rw [← hs]; exact h (i + 1) (by simpa using hi)⟩

theorem strAt_toList (l : List Tok) (i : Nat) : (strAt l i).toList = l.getD i [] := by
  rw [ByteArray.toList_eq]; simp [strAt]

theorem strAt_list (l : List Tok) (i : Nat) : (strAt l i).data.toList = l.getD i [] := by simp [strAt]

/-- What 'split' answers. -/
def SplitPost (w : World) (l : List Tok) (er : Nat) (e : Ending) (w' : World) : Prop :=
  Below w.heap.size w w' ∧ ((er = 0 ∧ e = .returned (.tuple #[.slice (some ⟨w.heap.size, 0, none⟩) l.length l.length, .int .i64 0]) ∧ StrsAt w' w.heap.size 0 l) ∨
    (er ≠ 0 ∧ e = .returned (.tuple #[.slice none 0 0, .int .i64 er])))

theorem pieces_size (s : ByteArray) (hs : s.size ≤ 1048576) : (pieces s.data.toList).length ≤ 1048577 := by
  rw [pieces_len]; have := List.count_le_length (a := 46) (l := s.data.toList); rw [show s.data.toList.length = s.size by simp] at this; omega

theorem pieces_each (s : List UInt8) : ∀ i, ((pieces s).getD i []).length ≤ s.length := by
  induction s with
  | nil => intro i; cases i <;> simp [pieces]
  | cons b s ih =>
    intro i
    unfold pieces
    split
    · cases i with
      | zero => simp
      | succ i => have := ih i; simp only [List.getD_cons_succ, List.length_cons]; omega
    · split
      · rename_i p ps e
        rw [e] at ih
        cases i with
        | zero => have := ih 0; simpa using this
        | succ i => have := ih (i + 1); simp only [List.getD_cons_succ, List.length_cons] at this ⊢; omega
      · cases i <;> simp

set_option maxRecDepth 100000 in
theorem split_any (s : ByteArray) (wild : Bool) (w : World) (hs : s.size ≤ 1048576) (hm : ML w) :
    Calls Tryz.prog 206 #[.string s, .bool wild] w (SplitPost w (pieces s.data.toList) (err wild s.data.toList)) := by
  by_cases he : 8 < (pieces s.data.toList).length
  · refine (split_large s wild w hs hm he).mono ?_
    rintro e w' ⟨rfl, hb⟩
    have : err wild s.data.toList = 2 := by unfold err; rw [if_pos he]
    rw [this]
    exact ⟨hb, .inr ⟨by decide, rfl⟩⟩
  obtain ⟨m, hm⟩ := hm
  have hc := Tryz.strings_Split s ⟨#[46]⟩ m w (by omega) hm (by decide)
  rw [countB_dot] at hc
  have hb := (Below.refl w.heap.size w).alloc (Nat.le_refl _) (.cells ((Lib.splitB ⟨#[46]⟩ 0 (Lib.countB s ⟨#[46]⟩) s).map Value.string).toArray 9)
  have hst := strsAt_made w s 9
  have herr : err wild s.data.toList = if okPieces wild (pieces s.data.toList) then 0 else 3 := by unfold err; rw [if_neg he]
  obtain ⟨er, her⟩ : ∃ er, err wild s.data.toList = er := ⟨_, rfl⟩
  rw [her]
  rw [herr] at her
  have hsz : ∀ i, (strAt (pieces s.data.toList) i).size ≤ maxLen := fun i => by
    have := pieces_each s.data.toList i
    have h2 : (strAt (pieces s.data.toList) i).size = ((pieces s.data.toList).getD i []).length := by
      show ((pieces s.data.toList).getD i []).toArray.size = _; simp
    rw [h2]
    have h3 : s.data.toList.length = s.size := by simp
    unfold maxLen; omega
  generalize w.alloc (.cells ((Lib.splitB ⟨#[46]⟩ 0 (Lib.countB s ⟨#[46]⟩) s).map Value.string).toArray 9) = W at *
  generalize pieces s.data.toList = l at *
  obtain ⟨n, hn⟩ : ∃ n, l.length = n := ⟨_, rfl⟩
  rw [hn] at hc he
  have HC := Lib.hid hc
  have HST := Lib.hid hst
  have HSZ := Lib.hid hsz
  have HN := Lib.hid hn
  have HER := Lib.hid her
  clear hc hst hsz hn herr her
  go_enter Tryz.func206, Tryz.ntmps206
  go_wp2_with fail
  refine HC.out.mono ?_
  rintro e w' ⟨rfl, rfl⟩
  go_wp2
  go_loop [16] (fun i => ∃ k : Nat, k ≤ n ∧ i = .int .i64 k ∧ Hid (∀ j, j < k → okAt wild l j = true)) (fun i => n - (intOf i).toNat)
  case atStart => exact ⟨0, Nat.zero_le _, rfl, fun j h => by omega⟩
  case round =>
    obtain ⟨k, hk, rfl, HK⟩ := hrel
    by_cases hlt : k < n
    · have hcell := HST.out k (by rw [HN.out]; exact hlt)
      rw [Nat.zero_add] at hcell
      have htok := token_any (strAt l k) w' (HSZ.out k)
      rw [strAt_list] at htok
      have hdef : okAt wild l k = ((wild && (l.getD k [] == [42] || (l.getD k [] == [62] && decide (k + 1 = n)))) || tokenOk (l.getD k [])) := by unfold okAt; rw [HN.out]
      have htl := strAt_toList l k
      have HT := Lib.hid htok; clear htok
      have HD := Lib.hid hdef; clear hdef
      have HL := Lib.hid htl; clear htl
      -- the round's end where the token is right
      have hnext : okAt wild l k = true → ∃ k' : Nat, k' ≤ n ∧ Value.int .i64 ((k : Int) + 1) = .int .i64 k' ∧ Hid (∀ j, j < k' → okAt wild l j = true) := fun h =>
        ⟨k + 1, by omega, by go_num, fun j hj => by
          by_cases e : j = k
          · subst e; exact h
          · exact HK.out j (by omega)⟩
      have HX := Lib.hid hnext; clear hnext
      have hlast : ((k : Int) == (n : Int) - 1) = decide (k + 1 = n) := by
        rw [Bool.eq_iff_iff]; simp; omega
      have HLa := Lib.hid hlast; clear hlast
      have hbad : okAt wild l k = false → okPieces wild l = false := fun h => by
        cases ho : okPieces wild l with
        | false => rfl
        | true => rw [okPieces_iff] at ho; rw [ho k (by rw [HN.out]; exact hlt)] at h; cases h
      have HB := Lib.hid hbad; clear hbad
      cases wild with
      | false =>
        have hd := HD.out
        simp only [Bool.false_and, Bool.false_or] at hd
        by_cases hok : tokenOk (l.getD k []) = true
        · have HO := Lib.hid hok
          clear hok hd
          go_wp2_with fail
          refine HT.out.mono ?_
          rw [HO.out]
          rintro e w'' ⟨rfl, rfl⟩
          go_wp2
          exact ⟨HX.out (by rw [HD.out, HO.out]; rfl), by simp [intOf]; omega⟩
        · have hok' : tokenOk (l.getD k []) = false := by simpa using hok
          have HO := Lib.hid hok'
          clear hok hok' hd
          go_wp2_with fail
          refine HT.out.mono ?_
          rw [HO.out]
          rintro e w'' ⟨rfl, rfl⟩
          go_wp2
          go_ret2
          have h3 : er = 3 := by
            rw [← HER.out, HB.out (by rw [HD.out, HO.out]; rfl)]; rfl
          subst h3
          exact ⟨hb, .inr ⟨by decide, rfl⟩⟩
      | true =>
        by_cases c1 : l.getD k [] = [42]
        · have hok : okAt true l k = true := by rw [HD.out, c1]; rfl
          have d1 : (strAt l k).toList = [42] := by rw [HL.out, c1]
          have HO := Lib.hid hok
          have d2 : ((strAt l k).toList == [42]) = true := by simp [d1]
          clear hok c1
          go_wp2
          exact ⟨HX.out HO.out, by simp [intOf]; omega⟩
        · have d1 : ¬ (strAt l k).toList = [42] := by rw [HL.out]; exact c1
          have d2 : ((strAt l k).toList == [42]) = false := by simp [d1]
          have C1 := Lib.hid c1; clear c1
          by_cases c2 : l.getD k [] = [62]
          · have d3 : (strAt l k).toList = [62] := by rw [HL.out, c2]
            have d4 : ((strAt l k).toList == [62]) = true := by simp [d3]
            have C2 := Lib.hid c2; clear c2
            by_cases c3 : k + 1 = n
            · have hla : ((k : Int) == (n : Int) - 1) = true := by rw [HLa.out]; simpa using c3
              have C3 := Lib.hid c3; clear c3
              go_wp2
              refine ⟨HX.out ?_, by simp [intOf]; omega⟩
              rw [HD.out, C2.out]
              have := C3.out
              simp [this]
            · have hla : ((k : Int) == (n : Int) - 1) = false := by rw [HLa.out]; simpa using c3
              have C3 := Lib.hid c3; clear c3
              have HO : Hid (tokenOk (l.getD k []) = false) := by show _ = _; rw [C2.out]; decide
              go_wp2_with fail
              refine HT.out.mono ?_
              rw [HO.out]
              rintro e w'' ⟨rfl, rfl⟩
              go_wp2
              go_ret2
              have h3 : er = 3 := by
                rw [← HER.out, HB.out (by rw [HD.out, HO.out, C2.out]; have := C3.out; simp [this])]; rfl
              subst h3
              exact ⟨hb, .inr ⟨by decide, rfl⟩⟩
          · have d3 : ¬ (strAt l k).toList = [62] := by rw [HL.out]; exact c2
            have d4 : ((strAt l k).toList == [62]) = false := by simp [d3]
            have C2 := Lib.hid c2; clear c2
            by_cases hok : tokenOk (l.getD k []) = true
            · have HO := Lib.hid hok
              clear hok
              go_wp2_with fail
              refine HT.out.mono ?_
              rw [HO.out]
              rintro e w'' ⟨rfl, rfl⟩
              go_wp2
              exact ⟨HX.out (by rw [HD.out, HO.out]; simp), by simp [intOf]; omega⟩
            · have hok' : tokenOk (l.getD k []) = false := by simpa using hok
              have HO := Lib.hid hok'
              clear hok hok'
              go_wp2_with fail
              refine HT.out.mono ?_
              rw [HO.out]
              rintro e w'' ⟨rfl, rfl⟩
              go_wp2
              go_ret2
              have h3 : er = 3 := by
                rw [← HER.out, HB.out (by rw [HD.out, HO.out, beq_eq_false_iff_ne.2 C1.out, beq_eq_false_iff_ne.2 C2.out]; rfl)]; rfl
              subst h3
              exact ⟨hb, .inr ⟨by decide, rfl⟩⟩
    · have hall : okPieces wild l = true := by
        rw [okPieces_iff]
        intro i hi
        rw [HN.out] at hi
        exact HK.out i (by omega)
      have h0 : er = 0 := by rw [← HER.out, hall]; rfl
      have H0 := Lib.hid h0; clear hall h0
      go_wp2
      go_ret2
      refine ⟨hb, .inl ⟨H0.out, ?_, HST.out⟩⟩
      rw [HN.out]
      rfl
end Go.Proofs.YtbgchhgdlceceaaGreatDoor.Subj

namespace Go.Proofs.YtbgchhgdlceceaaGreatDoor.Subj
open Go.RowKit

/-- A row of texts as a value: empty, whatever its address; or lying somewhere. -/
def Strs (w : World) (v : Value) (l : List Tok) : Prop :=
  ∃ (ao : Option Addr) (cap : Nat), v = .slice ao l.length cap ∧ l.length ≤ cap ∧ (l ≠ [] → ∃ g off, ao = some ⟨g, off, none⟩ ∧ StrsAt w g off l)

theorem takes_step (f s : List Tok) (k : Nat) (hk : k < f.length) : takes (f.drop k) (s.drop k) =
    if f.getD k [] == [62] then decide (k < s.length) else if k < s.length then (f.getD k [] == [42] || f.getD k [] == s.getD k []) && takes (f.drop (k + 1)) (s.drop (k + 1)) else false := by
  have hf : f.drop k = f.getD k [] :: f.drop (k + 1) := by
    rw [List.drop_eq_getElem_cons hk]; simp [List.getD, hk]
  rw [hf]
  generalize f.getD k [] = t
  generalize List.drop (k + 1) f = f'
  by_cases hs : k < s.length
  · have hs' : s.drop k = s.getD k [] :: s.drop (k + 1) := by
      rw [List.drop_eq_getElem_cons hs]; simp [List.getD, hs]
    rw [hs', if_pos hs]
    generalize s.getD k [] = x
    generalize List.drop (k + 1) s = s'
    rw [decide_eq_true hs]
    rfl
  · have hs' : s.drop k = [] := List.drop_of_length_le (by omega)
    rw [hs', if_neg hs, decide_eq_false hs]
    rfl

theorem takes_end (f s : List Tok) (h : f.length ≤ s.length) : takes (f.drop f.length) (s.drop f.length) = decide (f.length = s.length) := by
  rw [List.drop_length]
  simp only [takes]
  rw [Bool.eq_iff_iff]
  simp
  omega

set_option maxRecDepth 100000 in
theorem takes_any (gf gs cf cs : Nat) (f s : List Tok) (w : World) (hf : StrsAt w gf 0 f) (hs : StrsAt w gs 0 s) (hlf : f.length ≤ maxLen) (hls : s.length ≤ maxLen) :
    Calls Tryz.prog 152 #[.slice (some ⟨gf, 0, none⟩) f.length cf, .slice (some ⟨gs, 0, none⟩) s.length cs] w fun e w' => e = .returned (.bool (takes f s)) ∧ w = w' := by
  have HF := Lib.hid hf; have HS := Lib.hid hs
  obtain ⟨n, hn⟩ : ∃ n, f.length = n := ⟨_, rfl⟩
  obtain ⟨m, hm⟩ : ∃ m, s.length = m := ⟨_, rfl⟩
  obtain ⟨r, hr⟩ : ∃ r, takes f s = r := ⟨_, rfl⟩
  rw [hn] at hlf; rw [hm] at hls
  rw [hn, hm, hr]
  unfold maxLen at hlf hls
  have HN := Lib.hid hn; have HM := Lib.hid hm; have HR := Lib.hid hr
  clear hf hs hn hm hr
  go_enter Tryz.func152, Tryz.ntmps152
  go_wp2
  go_loop [9] (fun i => ∃ k : Nat, k ≤ n ∧ k ≤ m ∧ i = .int .i64 k ∧ Hid (takes (f.drop k) (s.drop k) = r)) (fun i => n - (intOf i).toNat)
  case atStart => exact ⟨0, Nat.zero_le _, Nat.zero_le _, rfl, HR⟩
  case round =>
    obtain ⟨k, hk, hkm, rfl, HK⟩ := hrel
    by_cases hlt : k < n
    · have hstep := takes_step f s k (by rw [HN.out]; exact hlt)
      rw [HK.out, HM.out] at hstep
      have HT := Lib.hid hstep; clear hstep
      have hcf := HF.out k (by rw [HN.out]; exact hlt)
      rw [Nat.zero_add] at hcf
      have hl1 := strAt_toList f k
      have HL1 := Lib.hid hl1; clear hl1
      by_cases c1 : f.getD k [] = [62]
      · have d1 : (strAt f k).toList = [62] := by rw [HL1.out, c1]
        have d2 : ((strAt f k).toList == [62]) = true := by simp [d1]
        have hres : decide (k < m) = r := by rw [HT.out, c1]; rfl
        have HRes := Lib.hid hres
        clear c1 hres
        by_cases c2 : k < m
        all_goals
          go_wp2
          go_ret
          exact ⟨ret_bool (by rw [← HRes.out]; simp [c2]), rfl⟩
      · have d1 : ¬ (strAt f k).toList = [62] := by rw [HL1.out]; exact c1
        have d2 : ((strAt f k).toList == [62]) = false := by simp [d1]
        have C1 := Lib.hid c1; clear c1
        by_cases c2 : k < m
        · have hkm' : ((k : Int) == (m : Int)) = false := by simp; omega
          have hcs := HS.out k (by rw [HM.out]; exact c2)
          rw [Nat.zero_add] at hcs
          have hl2 := strAt_toList s k
          have HL2 := Lib.hid hl2; clear hl2
          by_cases c3 : f.getD k [] = [42]
          · have d3 : (strAt f k).toList = [42] := by rw [HL1.out, c3]
            have d4 : ((strAt f k).toList == [42]) = true := by simp [d3]
            have C3 := Lib.hid c3; clear c3
            go_wp2
            refine ⟨⟨k + 1, by omega, by omega, by go_num, ?_⟩, by simp [intOf]; omega⟩
            show _ = _
            rw [HT.out, C3.out, if_neg (by decide), if_pos c2]
            simp
          · have d3 : ¬ (strAt f k).toList = [42] := by rw [HL1.out]; exact c3
            have d4 : ((strAt f k).toList == [42]) = false := by simp [d3]
            have C3 := Lib.hid c3; clear c3
            by_cases c4 : f.getD k [] = s.getD k []
            · have d5 : ((strAt f k).toList == (strAt s k).toList) = true := by rw [HL1.out, HL2.out, c4]; simp
              have d6 : (strAt f k).toList = (strAt s k).toList := by rw [HL1.out, HL2.out, c4]
              have C4 := Lib.hid c4; clear c4
              have D6 := Lib.hid d6; clear d6
              go_wp2
              refine ⟨⟨k + 1, by omega, by omega, by go_num, ?_⟩, by simp [intOf]; omega⟩
              show _ = _
              rw [HT.out, if_neg (by simpa using C1.out), if_pos c2, C4.out]
              simp
            · have d5 : ((strAt f k).toList == (strAt s k).toList) = false := by rw [HL1.out, HL2.out]; simpa using c4
              have C4 := Lib.hid c4; clear c4
              go_wp2
              go_ret
              refine ⟨ret_bool ?_, rfl⟩
              rw [HT.out, if_neg (by simpa using C1.out), if_pos c2, beq_eq_false_iff_ne.2 C3.out, beq_eq_false_iff_ne.2 C4.out]
              rfl
        · obtain rfl : k = m := by omega
          have hkm' : ((k : Int) == (k : Int)) = true := by simp
          go_wp2
          go_ret
          refine ⟨ret_bool ?_, rfl⟩
          rw [HT.out, if_neg (by simpa using C1.out), if_neg c2]
    · obtain rfl : k = n := by omega
      have he := takes_end f s (by rw [HN.out, HM.out]; exact hkm)
      rw [HN.out, HM.out, HK.out] at he
      have HE := Lib.hid he; clear he
      go_wp2
      go_ret
      refine ⟨ret_bool ?_, rfl⟩
      rw [HE.out, Bool.eq_iff_iff]
      simp
      omega

/-! ### Subject, Filter, Match -/

/-- A flag, as a number of an error. -/
theorem subject_any (s : ByteArray) (w : World) (hs : s.size ≤ 1048576) (hm : ML w) :
    Calls Tryz.prog 184 #[.string s] w fun e w' => e = .returned (.int .i64 (err false s.data.toList)) ∧ Below w.heap.size w w' := by
  have h := split_any s false w hs hm
  have HC := Lib.hid h; clear h
  generalize err false s.data.toList = er at *
  generalize pieces s.data.toList = l at *
  go_enter Tryz.func184, Tryz.ntmps184
  go_wp2_with fail
  refine HC.out.mono ?_
  rintro e w' ⟨hb, ⟨rfl, rfl, _⟩ | ⟨h0, rfl⟩⟩
  · go_wp2
    go_ret
    exact ⟨rfl, hb⟩
  · go_wp2
    go_ret
    exact ⟨rfl, hb⟩

theorem filter_any (s : ByteArray) (w : World) (hs : s.size ≤ 1048576) (hm : ML w) :
    Calls Tryz.prog 156 #[.string s] w fun e w' => e = .returned (.int .i64 (err true s.data.toList)) ∧ Below w.heap.size w w' := by
  have h := split_any s true w hs hm
  have HC := Lib.hid h; clear h
  generalize err true s.data.toList = er at *
  generalize pieces s.data.toList = l at *
  go_enter Tryz.func156, Tryz.ntmps156
  go_wp2_with fail
  refine HC.out.mono ?_
  rintro e w' ⟨hb, ⟨rfl, rfl, _⟩ | ⟨h0, rfl⟩⟩
  · go_wp2
    go_ret
    exact ⟨rfl, hb⟩
  · go_wp2
    go_ret
    exact ⟨rfl, hb⟩

def beV (x : Bool × Nat) : Value := .tuple #[.bool x.1, .int .i64 x.2]

end Go.Proofs.YtbgchhgdlceceaaGreatDoor.Subj

namespace Go.Proofs.YtbgchhgdlceceaaGreatDoor.Subj
open Go.RowKit

/-- A row of texts, as cells. -/
def strsV (l : List Tok) : List Value := l.map fun t => .string ⟨t.toArray⟩

theorem strsV_len (l : List Tok) : (strsV l).length = l.length := by simp [strsV]
theorem strsV_get (l : List Tok) (i : Nat) (h : i < l.length) : (strsV l)[i]? = some (.string (strAt l i)) := by
  simp [strsV, strAt, h, List.getD]

end Go.Proofs.YtbgchhgdlceceaaGreatDoor.Subj

namespace Go.Proofs.YtbgchhgdlceceaaGreatDoor.Subj
open Go.RowKit

end Go.Proofs.YtbgchhgdlceceaaGreatDoor.Subj

namespace Go.Proofs.YtbgchhgdlceceaaGreatDoor.Subj
open Go.RowKit

end Go.Proofs.YtbgchhgdlceceaaGreatDoor.Subj
