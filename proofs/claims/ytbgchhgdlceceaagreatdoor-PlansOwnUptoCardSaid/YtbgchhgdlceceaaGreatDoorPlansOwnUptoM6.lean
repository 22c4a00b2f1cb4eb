/- Parts of the proof, joined: Bits of a text that are turned one by one, 32 side by side at the most. No program here.; Records over lists of bytes: what is right, how they are written and read; that what is written is read, and what is read is what is written. No program here. -/
import Derived.Test.YtbgchhgdlceceaaGreatDoorPlansOwnUptoM5
namespace Go.Proofs.YtbgchhgdlceceaaGreatDoor.Crc

end Go.Proofs.YtbgchhgdlceceaaGreatDoor.Crc

namespace Go.Proofs.YtbgchhgdlceceaaGreatDoor.Rec
open Subj Pack Crc

structure Rc where
  kind : Int
  seq : Int
  time : Int
  subj : List UInt8
  head : List UInt8
  data : List UInt8

def Rc.zero : Rc := ⟨0, 0, 0, [], [], []⟩

def far : Int := 1099511627776

/-- What is wrong with a record. -/
def recErr (r : Rc) : Nat :=
  if r.kind < 1 ∨ 4 < r.kind ∨ r.seq < 1 ∨ far < r.seq ∨ r.time < 0 ∨ far < r.time then 1
  else if r.kind = 1 then if err false r.subj ≠ 0 then err false r.subj else if 256 < r.head.length + r.data.length then 2 else 0
  else if r.kind = 3 then if err true r.subj ≠ 0 then err true r.subj else if r.head = [] ∧ r.data = [] then 0 else 1
  else if r.subj = [] ∧ r.head = [] ∧ r.data = [] then 0 else 1

def bodyL (r : Rc) : List UInt8 := UInt8.ofNat r.kind.toNat :: (numL r.seq.toNat ++ (numL r.time.toNat ++ (textL r.subj ++ (textL r.head ++ textL r.data))))

/-- A number's four bytes. -/
def le4 (c : Nat) : List UInt8 := [UInt8.ofNat (c % 256), UInt8.ofNat (c / 256 % 256), UInt8.ofNat (c / 65536 % 256), UInt8.ofNat (c / 16777216 % 256)]
def sum4 (l : List UInt8) : List UInt8 := le4 (crcL l).toNat

def codedL (r : Rc) : List UInt8 := textL (bodyL r) ++ sum4 (bodyL r)

/-- What is left behind a number, behind a text. -/
def fB (l : List UInt8) : List UInt8 := l.drop (rdN l).2.1
def fT (l : List UInt8) : List UInt8 := l.drop (rdT l 1024).2.1

/-- The fields behind the kind: the record, what is left, is all right? -/
def fields (kind : Int) (l : List UInt8) : Rc × List UInt8 × Bool :=
  (⟨kind, (rdN l).1, (rdN (fB l)).1, (rdT (fB (fB l)) 1024).1, (rdT (fT (fB (fB l))) 1024).1, (rdT (fT (fT (fB (fB l)))) 1024).1⟩,
    fT (fT (fT (fB (fB l)))),
    (rdN l).2.2 == 0 && (rdN (fB l)).2.2 == 0 && (rdT (fB (fB l)) 1024).2.2 == 0 && (rdT (fT (fB (fB l))) 1024).2.2 == 0 && (rdT (fT (fT (fB (fB l)))) 1024).2.2 == 0)

/-- The record of a body whose sum is right. -/
def bodyR (k : UInt8) (rest : List UInt8) (n : Nat) : Rc × Nat × Nat :=
  if (fields k.toNat rest).2.2 = true ∧ (fields k.toNat rest).2.1 = [] ∧ recErr (fields k.toNat rest).1 = 0 then ((fields k.toNat rest).1, n, 0) else (Rc.zero, 0, 7)

/-- A record that is read: it, its bytes, what is wrong. -/
def decL (s : List UInt8) : Rc × Nat × Nat :=
  if (rdT s 1024).2.2 ≠ 0 then (Rc.zero, 0, (rdT s 1024).2.2)
  else if s.length < (rdT s 1024).2.1 + 4 then (Rc.zero, 0, 6)
  else match (rdT s 1024).1 with
    | [] => (Rc.zero, 0, 7)
    | k :: rest => if (s.drop (rdT s 1024).2.1).take 4 ≠ sum4 (k :: rest) then (Rc.zero, 0, 7) else bodyR k rest ((rdT s 1024).2.1 + 4)

/-! ### Sizes -/

theorem pieces_sum (l : List UInt8) : l.length + 1 = ((pieces l).map (fun t => t.length + 1)).sum := by
  induction l with
  | nil => simp [pieces]
  | cons b l ih =>
    unfold pieces
    split
    · simp; omega
    · split
      · rename_i p ps e
        rw [e] at ih
        simp at ih ⊢; omega
      · rename_i e
        exact absurd e (pieces_ne l)

theorem sum_le (L : List Tok) (h : ∀ t ∈ L, t.length ≤ 16) : (L.map (fun t => t.length + 1)).sum ≤ 17 * L.length := by
  induction L with
  | nil => simp
  | cons t L ih =>
    have h1 := h t (by simp)
    have h2 := ih (fun t ht => h t (by simp [ht]))
    simp; omega

theorem okPieces_len (wild : Bool) : ∀ L : List Tok, okPieces wild L = true → ∀ t ∈ L, t.length ≤ 16
  | [], _, t, ht => by cases ht
  | x :: L, h, t, ht => by
    simp only [okPieces, Bool.and_eq_true] at h
    rcases List.mem_cons.1 ht with rfl | ht
    · rcases Bool.or_eq_true_iff.1 h.1 with h1 | h1
      · simp only [Bool.and_eq_true, Bool.or_eq_true, beq_iff_eq] at h1
        rcases h1.2 with h2 | h2
        · rw [h2]; decide
        · rw [h2.1]; decide
      · simp only [tokenOk, Bool.and_eq_true, decide_eq_true_eq] at h1
        exact h1.2
    · exact okPieces_len wild L h.2 t ht

theorem err_len {wild : Bool} {l : List UInt8} (h : err wild l = 0) : l.length ≤ 135 := by
  unfold err at h
  split at h
  · cases h
  · split at h
    · rename_i h1 h2
      have h3 := pieces_sum l
      have h4 := sum_le _ (okPieces_len wild _ h2)
      omega
    · cases h

theorem textL_len (t : List UInt8) : t.length + 1 ≤ (textL t).length ∧ (textL t).length ≤ t.length + 9 := by
  have h1 := numL_len t.length
  have h2 := numF_pos 8 t.length
  have h3 : (numL t.length).length = (numF (8 + 1) t.length).length := rfl
  unfold textL
  simp only [List.length_append]
  omega

theorem recErr_sizes {r : Rc} (h : recErr r = 0) : 1 ≤ r.kind ∧ r.kind ≤ 4 ∧ 1 ≤ r.seq ∧ r.seq ≤ far ∧ 0 ≤ r.time ∧ r.time ≤ far ∧ r.subj.length ≤ 135 ∧ r.head.length + r.data.length ≤ 256 := by
  unfold recErr at h
  split at h
  · cases h
  · rename_i h0
    simp only [not_or, Int.not_lt] at h0
    obtain ⟨a, b, c, d, e, f⟩ := h0
    refine ⟨a, b, c, d, e, f, ?_⟩
    split at h
    · split at h
      · rename_i h1; exact absurd h h1
      · rename_i h1
        split at h
        · cases h
        · rename_i h2
          exact ⟨err_len (by simpa using h1), by omega⟩
    · split at h
      · split at h
        · rename_i h1; exact absurd h h1
        · rename_i h1
          split at h
          · rename_i h2
            exact ⟨err_len (by simpa using h1), by rw [h2.1, h2.2]; decide⟩
          · cases h
      · split at h
        · rename_i h2
          rw [h2.1, h2.2.1, h2.2.2]; decide
        · cases h

theorem bodyL_len {r : Rc} (h : recErr r = 0) : 6 ≤ (bodyL r).length ∧ (bodyL r).length ≤ 1024 := by
  obtain ⟨_, _, _, _, _, _, h1, h2⟩ := recErr_sizes h
  have t1 := textL_len r.subj
  have t2 := textL_len r.head
  have t3 := textL_len r.data
  have n1 := numL_len r.seq.toNat
  have n2 := numL_len r.time.toNat
  have p1 : 0 < (numL r.seq.toNat).length := numF_pos 8 _
  have p2 : 0 < (numL r.time.toNat).length := numF_pos 8 _
  unfold bodyL
  simp only [List.length_cons, List.length_append]
  omega

/-! ### What is written is read -/

theorem drop_len (a b : List UInt8) : (a ++ b).drop a.length = b := by simp

theorem fields_body {r : Rc} (h : recErr r = 0) : fields (UInt8.ofNat r.kind.toNat).toNat (numL r.seq.toNat ++ (numL r.time.toNat ++ (textL r.subj ++ (textL r.head ++ textL r.data)))) = (r, [], true) := by
  obtain ⟨h1, h2, h3, h4, h5, h6, h7, h8⟩ := recErr_sizes h
  unfold far at h4 h6
  have hk : ((UInt8.ofNat r.kind.toNat).toNat : Int) = r.kind := by
    rw [ofNat_toNat_lt _ (by omega)]; omega
  have e1 := rdN_num r.seq.toNat (numL r.time.toNat ++ (textL r.subj ++ (textL r.head ++ textL r.data))) (by omega)
  have e2 := rdN_num r.time.toNat (textL r.subj ++ (textL r.head ++ textL r.data)) (by omega)
  have e3 := rdT_text r.subj (textL r.head ++ textL r.data) 1024 (by omega) (by omega)
  have e4 := rdT_text r.head (textL r.data) 1024 (by omega) (by omega)
  have e5 := rdT_text r.data [] 1024 (by omega) (by omega)
  rw [List.append_nil] at e5
  unfold fields fB fT
  have d5 : (textL r.data).drop (textL r.data).length = [] := by simp
  have s1 : ((r.seq.toNat : Nat) : Int) = r.seq := by omega
  have s2 : ((r.time.toNat : Nat) : Int) = r.time := by omega
  simp only [e1, e2, e3, e4, e5, drop_len, d5, hk, s1, s2]
  rfl

theorem sum4_len (l : List UInt8) : (sum4 l).length = 4 := rfl

theorem decL_coded {r : Rc} (h : recErr r = 0) (more : List UInt8) : decL (codedL r ++ more) = (r, (codedL r).length, 0) := by
  obtain ⟨h1, h2⟩ := bodyL_len h
  have e := rdT_text (bodyL r) (sum4 (bodyL r) ++ more) 1024 (by omega) (by omega)
  unfold decL codedL
  rw [List.append_assoc, e]
  have hl : (textL (bodyL r) ++ (sum4 (bodyL r) ++ more)).length = (textL (bodyL r)).length + 4 + more.length := by
    simp only [List.length_append, sum4_len]; omega
  have hd : (textL (bodyL r) ++ (sum4 (bodyL r) ++ more)).drop (textL (bodyL r)).length = sum4 (bodyL r) ++ more := drop_len _ _
  have ht : (sum4 (bodyL r) ++ more).take 4 = sum4 (bodyL r) := by
    rw [← sum4_len (bodyL r)]; exact List.take_left
  have hf := fields_body h
  have hb : bodyL r = UInt8.ofNat r.kind.toNat :: (numL r.seq.toNat ++ (numL r.time.toNat ++ (textL r.subj ++ (textL r.head ++ textL r.data)))) := rfl
  simp only [ne_eq, not_true_eq_false, if_false, hl, hd, ht]
  rw [if_neg (by omega)]
  generalize numL r.seq.toNat ++ (numL r.time.toNat ++ (textL r.subj ++ (textL r.head ++ textL r.data))) = rest at *
  rw [hb]
  simp only [bodyR, ne_eq, not_true_eq_false, if_false, hf, and_self, if_true, h, List.length_append, sum4_len]

theorem decL_front {r : Rc} (h : recErr r = 0) (j : Nat) (hj : j < (codedL r).length) : decL ((codedL r).take j) = (Rc.zero, 0, 6) := by
  obtain ⟨h1, h2⟩ := bodyL_len h
  have hcl : (codedL r).length = (textL (bodyL r)).length + 4 := by unfold codedL; rw [List.length_append, sum4_len]
  by_cases hlt : j < (textL (bodyL r)).length
  · have e := rdT_front (bodyL r) 1024 j (by omega) (by omega) hlt
    unfold decL codedL
    rw [List.take_append_of_le_length (by omega), e]
    rfl
  · have he : (codedL r).take j = textL (bodyL r) ++ (sum4 (bodyL r)).take (j - (textL (bodyL r)).length) := by
      unfold codedL
      rw [List.take_append, List.take_of_length_le (by omega)]
    have e := rdT_text (bodyL r) ((sum4 (bodyL r)).take (j - (textL (bodyL r)).length)) 1024 (by omega) (by omega)
    unfold decL
    rw [he, e]
    have hl : (textL (bodyL r) ++ (sum4 (bodyL r)).take (j - (textL (bodyL r)).length)).length = j := by
      rw [List.length_append, List.length_take, sum4_len]; omega
    simp only [ne_eq, not_true_eq_false, if_false, hl]
    rw [if_pos (by omega)]

/-! ### What is read is what is written -/

end Go.Proofs.YtbgchhgdlceceaaGreatDoor.Rec
