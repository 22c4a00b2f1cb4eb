/- Parts of the proof, joined: Decode, walked: the reader's methods first. -/
import Derived.Test.YthhgfdeegnimjaaGreatDoorConsumerPlaysUptoM38
import Derived.Outline
import Derived.Deep.QuietTactic
import Derived.BigQuiet
import Derived.Handy
namespace Go.Proofs.YthhgfdeegnimjaaGreatDoor.Rec
open Go.RowKit Subj Pack Crc

/-- The reader behind a number, a text. -/
def afterN (S : ByteArray) : ByteArray := S.extract (rdN S.data.toList).2.1 S.size
def afterT (S : ByteArray) : ByteArray := S.extract (rdT S.data.toList 1024).2.1 S.size

theorem afterN_list (S : ByteArray) : (afterN S).data.toList = fB S.data.toList := by
  unfold afterN fB
  rw [ByteArray.data_extract, Array.toList_extract]
  simp
  exact List.take_of_length_le (by simp)
theorem afterT_list (S : ByteArray) : (afterT S).data.toList = fT S.data.toList := by
  unfold afterT fT
  rw [ByteArray.data_extract, Array.toList_extract]
  simp
  exact List.take_of_length_le (by simp)

/-- What the five readings of a body leave. -/
structure Read (S0 S1 S2 S3 S4 S5 : ByteArray) (b1 b2 b3 b4 b5 : Bool) (q t : Int) (T1 T2 T3 : ByteArray) : Prop where
  s1 : afterN S0 = S1
  s2 : afterN S1 = S2
  s3 : afterT S2 = S3
  s4 : afterT S3 = S4
  s5 : afterT S4 = S5
  c1 : (true && (rdN S0.data.toList).2.2 == 0) = b1
  c2 : (b1 && (rdN S1.data.toList).2.2 == 0) = b2
  c3 : (b2 && (rdT S2.data.toList 1024).2.2 == 0) = b3
  c4 : (b3 && (rdT S3.data.toList 1024).2.2 == 0) = b4
  c5 : (b4 && (rdT S4.data.toList 1024).2.2 == 0) = b5
  q : ((rdN S0.data.toList).1 : Int) = q
  t : ((rdN S1.data.toList).1 : Int) = t
  t1 : (⟨(rdT S2.data.toList 1024).1.toArray⟩ : ByteArray) = T1
  t2 : (⟨(rdT S3.data.toList 1024).1.toArray⟩ : ByteArray) = T2
  t3 : (⟨(rdT S4.data.toList 1024).1.toArray⟩ : ByteArray) = T3

theorem Read.fields {S0 S1 S2 S3 S4 S5 : ByteArray} {b1 b2 b3 b4 b5 : Bool} {q t : Int} {T1 T2 T3 : ByteArray} (h : Read S0 S1 S2 S3 S4 S5 b1 b2 b3 b4 b5 q t T1 T2 T3) (k : Int) :
    fields k S0.data.toList = (rcOf k q t T1 T2 T3, S5.data.toList, b5) := by
  obtain ⟨rfl, rfl, rfl, rfl, rfl, rfl, rfl, rfl, rfl, rfl, rfl, rfl, rfl, rfl, rfl⟩ := h
  unfold Rec.fields rcOf
  simp only [afterN_list, afterT_list, Bool.true_and]

end Go.Proofs.YthhgfdeegnimjaaGreatDoor.Rec
