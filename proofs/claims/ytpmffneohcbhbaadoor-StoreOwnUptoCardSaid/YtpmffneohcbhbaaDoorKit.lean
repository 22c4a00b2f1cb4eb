/- Small laws on rows of bytes and on worlds, over any program: for the walks. -/
import Derived.WalkKit
import Derived.WalkSpells
import Derived.WalkLawsBesides
import Derived.Maps.AppendAt
import Derived.Lib.Hide
import Derived.ProofKit
import Derived.ChangeSame
import Derived.Lib.Strings
namespace Go.Proofs.YtpmffneohcbhbaaDoor
open Go.RowKit

theorem ret_int {k : IntKind} {a b : Int} (h : a = b) : Ending.returned (.int k a) = .returned (.int k b) := by rw [h]
theorem ret_str {a b : ByteArray} (h : a = b) : Ending.returned (.string a) = .returned (.string b) := by rw [h]
theorem ret_bool {a b : Bool} (h : a = b) : Ending.returned (.bool a) = .returned (.bool b) := by rw [h]
theorem val_int {k : IntKind} {a b : Int} (h : a = b) : Value.int k a = Value.int k b := by rw [h]
theorem val_str {a b : ByteArray} (h : a = b) : Value.string a = Value.string b := by rw [h]
theorem val_bool {a b : Bool} (h : a = b) : Value.bool a = Value.bool b := by rw [h]

/-- The cells of a row of bytes. -/
def bytesV (l : List UInt8) : List Value := l.map fun b => .int .u8 b.toNat

theorem bytesV_len (l : List UInt8) : (bytesV l).length = l.length := by simp [bytesV]
theorem bytesV_append (l m : List UInt8) : bytesV (l ++ m) = bytesV l ++ bytesV m := by simp [bytesV]
theorem bytesV_one (l : List UInt8) : ∀ u ∈ bytesV l, u.oneCell' = true := by
  intro u hu
  obtain ⟨b, _, rfl⟩ := List.mem_map.1 hu
  rfl

theorem push_fold (l : List UInt8) : ∀ s : ByteArray, (l.map fun b => (b.toNat : Int)).foldl (fun r n => r.push (UInt8.ofNat n.toNat)) s = ⟨s.data ++ l.toArray⟩ := by
  induction l with
  | nil => intro s; simp
  | cons b l ih =>
    intro s
    simp only [List.map_cons, List.foldl_cons]
    rw [ih]
    apply ByteArray.ext
    simp [ByteArray.push]

/-- 'string(bytes)': the cells lie there. -/
theorem run_string_cells {P : Program} {w : World} (src dst e : TypeId) (a : Addr) (c : Nat) (l : List UInt8)
    (hs : P.underlying src = some (.slice e)) (he : P.underlying e = some (.int .u8)) (hd : P.underlying dst = some .string)
    (h : ∀ j, j < l.length → w.cell? (a.add j) = some (.int .u8 (l.getD j 0).toNat)) :
    (convert src dst (.slice (some a) l.length c)).run P w = .ok (.string ⟨l.toArray⟩) w := by
  rw [run_convert_bytes_string w src dst e _ _ _ hs he hd]
  have h1 : (loadCells a l.length).run P w = .ok ((l.map fun b => (b.toNat : Int)).map (Value.int .u8)).toArray w := by
    rw [run_loadCells (P := P) w a l.length (fun j => .int .u8 (l.getD j 0).toNat) h]
    congr 1
    apply Array.ext
    · simp
    · intro j h1 h2
      simp at h1
      simp [List.getD, h1]
  rw [run_bytesToString w a l.length c _ h1, push_fold]
  simp

/-- 'string(bytes)' of a row of the call's own. -/
theorem run_string_own {P : Program} {w : World} {base : Nat} {e : TypeId} {v : Value} {l : List UInt8} (src dst : TypeId) {n : Nat}
    (hs : P.underlying src = some (.slice e)) (he : P.underlying e = some (.int .u8)) (hd : P.underlying dst = some .string)
    (hown : w.ownsRow base e 1 v n (bytesV l)) : (convert src dst v).run P w = .ok (.string ⟨l.toArray⟩) w := by
  have hl : l.length = n := by have := hown.1; simpa [bytesV_len] using this
  subst hl
  rcases hown.2 with ⟨rfl, h0⟩ | ⟨g, cap, cur, rfl, _, hg, hle, _, hsz, htake⟩
  · have : l = [] := List.eq_nil_of_length_eq_zero h0
    subst this
    rw [run_convert_bytes_string w src dst e _ _ _ hs he hd]
    rfl
  · refine run_string_cells src dst e _ _ l hs he hd fun j hj => ?_
    have h1 := hown.cells (g := g) rfl j (.int .u8 (l.getD j 0).toNat) (by simp [bytesV, List.getD, hj])
    exact h1

theorem below_drewN {B : Nat} {a w : World} (h : Below B a w) (n : Nat) : Below B a (w.drewN n) := h.trans ⟨rfl, rfl, rfl, Nat.le_refl _, fun _ _ => rfl⟩

/-- The text of one cell that holds a byte. -/
def byteStr : Option Value → ByteArray
  | some (.int .u8 n) => ⟨#[UInt8.ofNat n.toNat]⟩
  | _ => ByteArray.empty
def isByte : Option Value → Bool
  | some (.int .u8 _) => true
  | _ => false
@[go_sem] theorem byteStr_some (n : Int) : byteStr (some (.int .u8 n)) = ⟨#[UInt8.ofNat n.toNat]⟩ := rfl
@[go_sem] theorem isByte_some (n : Int) : isByte (some (.int .u8 n)) = true := rfl

/-- 'string([]byte{x})': to be laid among the hypotheses ahead of a region. -/
theorem run_string_one {P : Program} (src dst e : TypeId)
    (hs : P.underlying src = some (.slice e)) (he : P.underlying e = some (.int .u8)) (hd : P.underlying dst = some .string) :
    ∀ (w : World) (b c : Nat), isByte (w.cell? ⟨b, 0, none⟩) = true →
    (convert src dst (.slice (some ⟨b, 0, none⟩) 1 c)).run P w = .ok (.string (byteStr (w.cell? ⟨b, 0, none⟩))) w := by
  intro w b c h
  rw [run_convert_bytes_string w src dst e _ _ _ hs he hd]
  unfold isByte at h
  split at h
  · rename_i n hn
    rw [run_bytesToString w ⟨b, 0, none⟩ 1 c [n] ?_]
    · rw [hn]; rfl
    · rw [run_loadCells (P := P) w ⟨b, 0, none⟩ 1 (fun _ => .int .u8 n) ?_]
      · rfl
      · intro j hj
        obtain rfl : j = 0 := by omega
        exact hn
  · cases h

theorem bcell {W w1 : World} {B : Nat} (hb : Below B W w1) : (∀ b o, b < B → w1.cell? ⟨b, o, none⟩ = W.cell? ⟨b, o, none⟩) ∧ (∀ b o, b < B → w1.frozen? ⟨b, o, none⟩ = W.frozen? ⟨b, o, none⟩) :=
  ⟨fun b o h => hb.cell (p := ⟨b, o, none⟩) h, fun b o h => hb.frozen (p := ⟨b, o, none⟩) h⟩

/-! ### The row's last step, where of the new blocks nothing is known -/
section
open Go.WideShapes Go.ChangeShapes
variable {H : Type} {enc : TypeId × Value → H} {P : Program}
theorem post_of_below {f : Func} {s : ChangeSpec} {apart fresh handsOn again : Bool} {W W' : World} {args : Array Value} {v : Value} {ds gs : List (DataW H)} {before pa pv : List MemPlace}
    (hW : DataW.Whole enc P f.params.toList s.vars apart W args.toList ds gs before)
    (hres : ∀ (b : Nat) (sp : Nat → Bool) (hd : Bool), DataW.TrodAll enc P W' b sp hd f.resultTypes.toList (v.resultList f.resultTypes.size) (s.fn H (ds ++ gs)).results [])
    (hargs : ∀ sp : Nat → Bool, (∀ p ∈ before, sp p.block = true) → DataW.TrodAll enc P W' 0 sp true f.params.toList args.toList (s.fn H (ds ++ gs)).args pa)
    (hvars : ∀ sp : Nat → Bool, (∀ p ∈ before, sp p.block = true) → DataW.TrodVars enc P W' sp s.vars (s.fn H (ds ++ gs)).vars pv)
    (hps : before = pa ++ pv) (hb : Below W.heap.size W W')
    (hok : ∀ (j : Nat) (t : TypeId) (r : Value), f.resultTypes[j]? = some t → (v.resultList f.resultTypes.size)[j]? = some r → Value.okWide P W' .any 0 t r) :
    s.post enc P f apart fresh handsOn again W args v W' := by
  have hlt : ∀ p ∈ before, p.block < W.heap.size := fun p hp => hW.lt p hp
  have hold : ∀ p ∈ before, (fun b => decide (b < W.heap.size)) p.block = true := fun p hp => by simpa using hlt p hp
  refine ⟨ds, gs, before, [], pa, pv, hW, hres _ _ _, hargs _ hold, hvars _ hold, World.keptBut_mono (fun p hp => ⟨hp, ?_⟩) (hb.frame (· ∈ before)), fun _ => ?_⟩
  · rw [hps, List.mem_append] at hp
    exact Or.inr hp
  · obtain ⟨_, _, _, _, _, hz, hn⟩ := hW
    refine ⟨hok, _, _, ([] ++ pa) ++ pv, ⟨[] ++ pa, pv, trodAll_append (hargs _ (fun _ _ => rfl)) (hres _ _ _), hvars _ (fun _ _ => rfl), rfl, ?_, ?_⟩, ?_⟩
    · intro b off hp
      have hin : MemPlace.cell b off ∈ before := by rw [hps]; simpa using hp
      rw [hb.frozen (hlt _ hin)]
      exact hz b off hin
    · intro ha
      have := hn ha
      rw [hps] at this
      simpa using this
    · intro p hp _
      rw [hps]
      simpa using hp
end

end Go.Proofs.YtpmffneohcbhbaaDoor
