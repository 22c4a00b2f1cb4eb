/- rillref.TakerText, walked. -/
import Derived.Test.YtglgbidcmkncgaaDoorTakePrint2
import Derived.Deep.RegionHeld3
import Derived.Deep.RegionWith
namespace Go.Proofs.YtglgbidcmkncgaaDoor.Subj
open Go.RowKit

/-- The text so far. -/
def TextSo (pre : List UInt8) (m : Nat) (v : Value) : Prop := ∃ o : ByteArray, v = .string o ∧ o.data.toList = pre ∧ o.size ≤ m

def backSo (back : List Int) (k : Nat) : List UInt8 := if k = 0 then [] else [32] ++ (backE ++ listT (back.take k))

def ackBlock : Obj := .cells #[.string ⟨#[32, 97, 99, 107, 61, 110, 111, 110, 101]⟩, .string ⟨#[32, 97, 99, 107, 61, 97, 108, 108]⟩, .string ⟨#[]⟩] 9

theorem ackBlock_at (w : World) (k : Nat) (x : Value) (h : (#[Value.string ⟨#[32, 97, 99, 107, 61, 110, 111, 110, 101]⟩, .string ⟨#[32, 97, 99, 107, 61, 97, 108, 108]⟩, .string ⟨#[]⟩] : Array Value)[k]? = some x) : (w.alloc ackBlock).cell? ⟨w.heap.size, k, none⟩ = some x := by
  unfold ackBlock
  rw [World.cell?_alloc_at _ _ _ _ rfl]; exact h

set_option maxHeartbeats 8000000 in
set_option maxRecDepth 100000 in
theorem takerText_any (name filt : ByteArray) (src start ack wait most pend : Int) (push : Bool) (ao : Option Addr) (n cap : Nat) (back : List Int) (w : World) (hn : back.length = n) (hB : Ints w (.slice ao n cap) back) (hm : ML w) (ht : TenLaid w) (hE : errT ⟨name.data.toList, filt.data.toList, src, start, ack, wait, back, most, pend, push⟩ = 0) :
    Calls Tryd.prog 41 #[.agg (tCells name filt src start ack wait (.slice ao n cap) most pend push)] w fun e w' => e = .returned (.string ⟨(textT ⟨name.data.toList, filt.data.toList, src, start, ack, wait, back, most, pend, push⟩).toArray⟩) ∧ Inv w w' := by
  obtain ⟨res, hres⟩ : ∃ res : ByteArray, res = ⟨(textT ⟨name.data.toList, filt.data.toList, src, start, ack, wait, back, most, pend, push⟩).toArray⟩ := ⟨_, rfl⟩
  rw [← hres]
  have hres2 : res.data.toList = textT ⟨name.data.toList, filt.data.toList, src, start, ack, wait, back, most, pend, push⟩ := by rw [hres]
  rw [textT_flat] at hres2
  obtain ⟨w1, hw1⟩ : ∃ w1, w1 = w.alloc (.cells (tCells name filt src start ack wait (.slice ao n cap) most pend push) 37) := ⟨_, rfl⟩
  have hI1 : Inv w w1 := by rw [hw1]; exact Inv.made hm _
  have hB1 := ten_alloc w 37 (.string name) (.string filt) (.int .i64 src) (.int .i64 start) (.int .i64 ack) (.int .i64 wait) (.slice ao n cap) (.int .i64 most) (.int .i64 pend) (.bool push)
  rw [← hw1] at hB1
  have hBk := hB.below hI1.2
  obtain ⟨hf1, hf2, hf3, hf4⟩ := errT_facts hE
  have hf3' : back.length ≤ 5 := hf3
  have hf4' : argsOk src start ack wait back most pend = true := hf4
  obtain ⟨g1, g1', g2, g3, g4, g4', g4'', g5, g6, g7⟩ := argsOk_facts hf4'
  have hns : name.size ≤ 16 := by have := (name_facts hf1).2; simpa using this
  have hfs : filt.size ≤ 136 := by have := (filter_facts hf2).2; simpa using this
  have hws : numWs waitE wait = if ack = 0 then [] else [waitE ++ Lib.itoa wait] := by
    unfold numWs
    by_cases e : ack = 0
    · rw [if_pos e, if_neg (by have := g4'' e; omega)]
    · rw [if_neg e, if_pos (by have := g4' e; omega)]
  have HI1 := Lib.hid hI1; have HB1 := Lib.hid hB1; have HBK := Lib.hid hBk; have HRES := Lib.hid hres2; have HT := Lib.hid ht; have HN := Lib.hid hn; have HG7 := Lib.hid g7; have HWS := Lib.hid hws
  have HIR := Lib.hid (Inv.refl hI1.1)
  obtain ⟨y0, y1, y2, y3, y4, y5, y6, y7, y8, y9, yf⟩ := ten hB1
  clear hI1 hB1 hBk hB hm ht hn hE hf1 hf2 hf3 hf4 hf4' g1' g4' g4'' g7 hws hres hres2
  go_enter Tryd.func41, Tryd.ntmps41
  go_upto_region 1 with fail
  rw [← hw1]
  have HW1 := Lib.hid hw1
  clear hw1
  go_cut [3] from 5 to 26 (fun s3 wx => TextSo (name.data.toList ++ ([32] ++ filt.data.toList) ++ flatS (fromWs src start) ++ flatS (ackWs ack)) 300 s3 ∧ Inv w1 wx)
  case first =>
    have hlt : w.heap.size < w1.heap.size := World.block_lt_of_cell? w1 _ y0
    obtain ⟨k, rfl⟩ : ∃ k : Nat, src = k := ⟨src.toNat, by omega⟩
    obtain ⟨a, rfl⟩ : ∃ a : Nat, ack = a := ⟨ack.toNat, by omega⟩
    have HIT1 := Lib.hid (itoa_any start (by omega) (by omega) w1.drew (HT.out.inv (HI1.out.step (Below.refl _ _).drew)))
    have HIT2 := Lib.hid (itoa_any start (by omega) (by omega) (w1.alloc (.cells #[.string ⟨#[32, 97, 99, 107, 61, 110, 111, 110, 101]⟩, .string ⟨#[32, 97, 99, 107, 61, 97, 108, 108]⟩, .string ⟨#[]⟩] 9)).drew (HT.out.inv (HI1.out.step ((Below.refl _ _).alloc (Nat.le_refl _) _).drew)))
    have hit := itoa_tok start (by omega) (by omega)
    obtain ⟨XX, hXX⟩ : ∃ XX : ByteArray, XX = ⟨(Lib.itoa start).toArray⟩ := ⟨_, rfl⟩
    have hxd : XX.data.toList = Lib.itoa start := by rw [hXX]
    rw [← hXX] at HIT1 HIT2 hit
    have HXD := Lib.hid hxd
    have HK1 := Lib.hid (fun w' (h : Below w1.drew.heap.size w1.drew w') => (⟨(h.cell (p := ⟨w.heap.size, 0, none⟩) hlt).trans y0, (h.cell (p := ⟨w.heap.size, 1, none⟩) hlt).trans y1, (h.cell (p := ⟨w.heap.size, 2, none⟩) hlt).trans y2, (h.cell (p := ⟨w.heap.size, 3, none⟩) hlt).trans y3, (h.cell (p := ⟨w.heap.size, 4, none⟩) hlt).trans y4⟩ : w'.cell? ⟨w.heap.size, 0, none⟩ = some (.string name) ∧ w'.cell? ⟨w.heap.size, 1, none⟩ = some (.string filt) ∧ w'.cell? ⟨w.heap.size, 2, none⟩ = some (.int .i64 (k : Nat)) ∧ w'.cell? ⟨w.heap.size, 3, none⟩ = some (.int .i64 start) ∧ w'.cell? ⟨w.heap.size, 4, none⟩ = some (.int .i64 (a : Nat))))
    have hba : Below w1.heap.size w1 (w1.alloc (.cells #[.string ⟨#[32, 97, 99, 107, 61, 110, 111, 110, 101]⟩, .string ⟨#[32, 97, 99, 107, 61, 97, 108, 108]⟩, .string ⟨#[]⟩] 9)).drew := ((Below.refl _ _).alloc (Nat.le_refl _) _).drew
    have HK2 := Lib.hid (fun w' (h : Below (w1.alloc (.cells #[.string ⟨#[32, 97, 99, 107, 61, 110, 111, 110, 101]⟩, .string ⟨#[32, 97, 99, 107, 61, 97, 108, 108]⟩, .string ⟨#[]⟩] 9)).drew.heap.size (w1.alloc (.cells #[.string ⟨#[32, 97, 99, 107, 61, 110, 111, 110, 101]⟩, .string ⟨#[32, 97, 99, 107, 61, 97, 108, 108]⟩, .string ⟨#[]⟩] 9)).drew w') => (by
      have hb : Below w1.heap.size w1 w' := hba.trans (h.mono hba.size)
      refine ⟨(hb.cell (p := ⟨w.heap.size, 0, none⟩) hlt).trans y0, (hb.cell (p := ⟨w.heap.size, 1, none⟩) hlt).trans y1, (hb.cell (p := ⟨w.heap.size, 2, none⟩) hlt).trans y2, (hb.cell (p := ⟨w.heap.size, 3, none⟩) hlt).trans y3, (hb.cell (p := ⟨w.heap.size, 4, none⟩) hlt).trans y4, fun x hx => ?_⟩
      refine (h.cell (p := ⟨w1.heap.size, a, none⟩) (by simp)).trans ?_
      show ((w1.alloc (.cells #[.string ⟨#[32, 97, 99, 107, 61, 110, 111, 110, 101]⟩, .string ⟨#[32, 97, 99, 107, 61, 97, 108, 108]⟩, .string ⟨#[]⟩] 9))).cell? _ = _
      rw [World.cell?_alloc_at _ _ _ _ rfl]; exact hx : w'.cell? ⟨w.heap.size, 0, none⟩ = some (.string name) ∧ w'.cell? ⟨w.heap.size, 1, none⟩ = some (.string filt) ∧ w'.cell? ⟨w.heap.size, 2, none⟩ = some (.int .i64 (k : Nat)) ∧ w'.cell? ⟨w.heap.size, 3, none⟩ = some (.int .i64 start) ∧ w'.cell? ⟨w.heap.size, 4, none⟩ = some (.int .i64 (a : Nat)) ∧ ∀ x, (#[Value.string ⟨#[32, 97, 99, 107, 61, 110, 111, 110, 101]⟩, .string ⟨#[32, 97, 99, 107, 61, 97, 108, 108]⟩, .string ⟨#[]⟩] : Array Value)[a]? = some x → w'.cell? ⟨w1.heap.size, a, none⟩ = some x))
    clear hxd hXX
    have q1 : ¬ 9223372036854775807 < name.size + 1 := by omega
    have q2 : ¬ 9223372036854775807 < name.size + 1 + filt.size := by omega
    have q3 : ¬ 9223372036854775807 < 6 + XX.size := by omega
    have hk4 : (k : Int) < 4 := by omega
    have ha3 : (a : Int) < 3 := by omega
    have hk0 : (0 : Int) ≤ k := by omega
    have ha0 : (0 : Int) ≤ a := by omega
    obtain ⟨F, hF, hFs, hFd⟩ : ∃ F : ByteArray, ([.string ⟨#[]⟩, .string ⟨#[32, 102, 114, 111, 109, 61, 108, 97, 115, 116]⟩, .string ⟨#[32, 102, 114, 111, 109, 61, 110, 101, 119]⟩, .string (⟨#[32, 102, 114, 111, 109, 61]⟩ ++ XX)] : List Value)[k]? = some (.string F) ∧ F.size ≤ 15 ∧ F.data.toList = flatS (fromWs k start) := by
      have h6 : (⟨#[32, 102, 114, 111, 109, 61]⟩ : ByteArray).size = 6 := rfl
      rcases k with _ | _ | _ | _ | k
      · exact ⟨_, rfl, by decide, rfl⟩
      · exact ⟨_, rfl, by decide, rfl⟩
      · exact ⟨_, rfl, by decide, rfl⟩
      · exact ⟨_, rfl, by rw [ByteArray.size_append]; omega, by simp [HXD.out, flatS, fromWs, fromE]⟩
      · omega
    obtain ⟨G, hG, hGs, hGd⟩ : ∃ G : ByteArray, ([.string ⟨#[32, 97, 99, 107, 61, 110, 111, 110, 101]⟩, .string ⟨#[32, 97, 99, 107, 61, 97, 108, 108]⟩, .string ⟨#[]⟩] : List Value)[a]? = some (.string G) ∧ G.size ≤ 9 ∧ G.data.toList = flatS (ackWs a) := by
      rcases a with _ | _ | _ | a
      · exact ⟨_, rfl, by decide, rfl⟩
      · exact ⟨_, rfl, by decide, rfl⟩
      · exact ⟨_, rfl, by decide, rfl⟩
      · omega
    have hFa : (#[.string ⟨#[]⟩, .string ⟨#[32, 102, 114, 111, 109, 61, 108, 97, 115, 116]⟩, .string ⟨#[32, 102, 114, 111, 109, 61, 110, 101, 119]⟩, .string (⟨#[32, 102, 114, 111, 109, 61]⟩ ++ XX)] : Array Value)[k]? = some (.string F) := by simpa using hF
    have hGa : (#[.string ⟨#[32, 97, 99, 107, 61, 110, 111, 110, 101]⟩, .string ⟨#[32, 97, 99, 107, 61, 97, 108, 108]⟩, .string ⟨#[]⟩] : Array Value)[a]? = some (.string G) := by simpa using hG
    have HFD := Lib.hid hFd; have HGD := Lib.hid hGd
    clear hFd hGd
    have q4 : ¬ 9223372036854775807 < name.size + 1 + filt.size + F.size := by omega
    have q5 : ¬ 9223372036854775807 < name.size + 1 + filt.size + F.size + G.size := by omega
    refine wp_region_held_drew (S := (fun w' => w'.cell? ⟨w.heap.size, 0, none⟩ = some (.string name) ∧ w'.cell? ⟨w.heap.size, 1, none⟩ = some (.string filt) ∧ w'.cell? ⟨w.heap.size, 2, none⟩ = some (.int .i64 (k : Nat)) ∧ w'.cell? ⟨w.heap.size, 3, none⟩ = some (.int .i64 start) ∧ w'.cell? ⟨w.heap.size, 4, none⟩ = some (.int .i64 (a : Nat)))) (by kernel_rfl) (by (try dsimp only); go_keep) (fun hHeld0 => ?_)
    refine wpAnyH_take (i := 0) (v := ?_) rfl (by kernel_rfl) (by kernel_rfl) (by kernel_rfl) (fun _ _ _ h => h) (Or.inl ⟨by rfl, ?_⟩) (by assumption) ?_
    rotate_left
    · intro w hSw; (try dsimp only at hSw); first | (go_simp; done) | (go_simp; with_reducible rfl)
    (try simp only [Act.put, List.getElem_toArray, List.getElem_cons_succ, List.getElem_cons_zero, List.setIfInBounds_toArray, List.set_cons_zero, List.set_cons_succ])
    refine wpAnyH_take (i := 1) (v := ?_) rfl (by kernel_rfl) (by kernel_rfl) (by kernel_rfl) (fun _ _ _ h => h) (Or.inl ⟨by rfl, ?_⟩) (by assumption) ?_
    rotate_left
    · intro w hSw; (try dsimp only at hSw); first | (go_simp; done) | (go_simp; with_reducible rfl)
    (try simp only [Act.put, List.getElem_toArray, List.getElem_cons_succ, List.getElem_cons_zero, List.setIfInBounds_toArray, List.set_cons_zero, List.set_cons_succ])
    refine wpAnyH_take (i := 2) (v := ?_) rfl (by kernel_rfl) (by kernel_rfl) (by kernel_rfl) (fun _ _ _ h => h) (Or.inl ⟨by rfl, ?_⟩) (by assumption) ?_
    rotate_left
    · intro w hSw; (try dsimp only at hSw); first | (go_simp; done) | (go_simp; with_reducible rfl)
    (try simp only [Act.put, List.getElem_toArray, List.getElem_cons_succ, List.getElem_cons_zero, List.setIfInBounds_toArray, List.set_cons_zero, List.set_cons_succ])
    refine wpAnyH_take (i := 3) (v := ?_) rfl (by kernel_rfl) (by kernel_rfl) (by kernel_rfl) (fun _ _ _ h => h) (Or.inl ⟨by rfl, ?_⟩) (by assumption) ?_
    rotate_left
    · intro w hSw; (try dsimp only at hSw); first | (go_simp; done) | (go_simp; with_reducible rfl)
    (try simp only [Act.put, List.getElem_toArray, List.getElem_cons_succ, List.getElem_cons_zero, List.setIfInBounds_toArray, List.set_cons_zero, List.set_cons_succ])
    refine wpAnyH_take (i := 4) (v := ?_) rfl (by kernel_rfl) (by kernel_rfl) (by kernel_rfl) (fun _ _ _ h => h) (Or.inl ⟨by rfl, ?_⟩) (by assumption) ?_
    rotate_left
    · intro w hSw; (try dsimp only at hSw); first | (go_simp; done) | (go_simp; with_reducible rfl)
    (try simp only [Act.put, List.getElem_toArray, List.getElem_cons_succ, List.getElem_cons_zero, List.setIfInBounds_toArray, List.set_cons_zero, List.set_cons_succ])
    refine wpAnyH_take (i := 5) (v := ?_) rfl (by kernel_rfl) (by kernel_rfl) (by kernel_rfl) (fun _ _ _ h => h) (Or.inl ⟨by rfl, ?_⟩) (by assumption) ?_
    rotate_left
    · intro w hSw; (try dsimp only at hSw); first | (go_simp; done) | (go_simp; with_reducible rfl)
    (try simp only [Act.put, List.getElem_toArray, List.getElem_cons_succ, List.getElem_cons_zero, List.setIfInBounds_toArray, List.set_cons_zero, List.set_cons_succ])
    refine wpAnyH_take (i := 6) (v := ?_) rfl (by kernel_rfl) (by kernel_rfl) (by kernel_rfl) (fun _ _ _ h => h) (Or.inl ⟨by rfl, ?_⟩) (by assumption) ?_
    rotate_left
    · intro w hSw; (try dsimp only at hSw); first | (go_simp; done) | (go_simp; with_reducible rfl)
    (try simp only [Act.put, List.getElem_toArray, List.getElem_cons_succ, List.getElem_cons_zero, List.setIfInBounds_toArray, List.set_cons_zero, List.set_cons_succ])
    refine wpAnyH_take (i := 7) (v := ?_) rfl (by kernel_rfl) (by kernel_rfl) (by kernel_rfl) (fun _ _ _ h => h) (Or.inl ⟨by rfl, ?_⟩) (by assumption) ?_
    rotate_left
    · intro w hSw; (try dsimp only at hSw); first | (go_simp; done) | (go_simp; with_reducible rfl)
    (try simp only [Act.put, List.getElem_toArray, List.getElem_cons_succ, List.getElem_cons_zero, List.setIfInBounds_toArray, List.set_cons_zero, List.set_cons_succ])
    refine wpAnyH_take (i := 11) (v := ?_) rfl (by kernel_rfl) (by kernel_rfl) (by kernel_rfl) (fun _ _ _ h => h) (Or.inl ⟨by rfl, ?_⟩) (by assumption) ?_
    rotate_left
    · intro w hSw; (try dsimp only at hSw); first | (go_simp; done) | (go_simp; with_reducible rfl)
    (try simp only [Act.put, List.getElem_toArray, List.getElem_cons_succ, List.getElem_cons_zero, List.setIfInBounds_toArray, List.set_cons_zero, List.set_cons_succ])
    refine wpAnyH_take (i := 12) (v := ?_) rfl (by kernel_rfl) (by kernel_rfl) (by kernel_rfl) (fun _ _ _ h => h) (Or.inl ⟨by rfl, ?_⟩) (by assumption) ?_
    rotate_left
    · intro w hSw; (try dsimp only at hSw); first | (go_simp; done) | (go_simp; with_reducible rfl)
    (try simp only [Act.put, List.getElem_toArray, List.getElem_cons_succ, List.getElem_cons_zero, List.setIfInBounds_toArray, List.set_cons_zero, List.set_cons_succ])
    refine wpAnyH_take (i := 17) (v := ?_) rfl (by kernel_rfl) (by kernel_rfl) (by kernel_rfl) (fun _ _ _ h => h) (Or.inl ⟨by rfl, ?_⟩) (by assumption) ?_
    rotate_left
    · intro w hSw; (try dsimp only at hSw); first | (go_simp; done) | (go_simp; with_reducible rfl)
    (try simp only [Act.put, List.getElem_toArray, List.getElem_cons_succ, List.getElem_cons_zero, List.setIfInBounds_toArray, List.set_cons_zero, List.set_cons_succ])
    refine wpAnyH_take (i := 18) (v := ?_) rfl (by kernel_rfl) (by kernel_rfl) (by kernel_rfl) (fun _ _ _ h => h) (Or.inl ⟨by rfl, ?_⟩) (by assumption) ?_
    rotate_left
    · intro w hSw; (try dsimp only at hSw); first | (go_simp; done) | (go_simp; with_reducible rfl)
    (try simp only [Act.put, List.getElem_toArray, List.getElem_cons_succ, List.getElem_cons_zero, List.setIfInBounds_toArray, List.set_cons_zero, List.set_cons_succ])
    refine wpAnyH_ready (rs := [8, 16]) (by kernel_rfl) (by simp) ?_
    refine AllReadyH.cons rfl (fun K hK => ?_) ?_
    · skip
      go_simp
      first
        | (go_at_call 86; ((with_reducible refine HIT1.out.mono ?_); rintro e w' ⟨rfl, h2⟩; obtain ⟨k0, k1, k2, k3, k4⟩ := HK1.out _ h2; have HBB := Lib.hid (((Below.refl w1.heap.size w1).drew).trans h2); clear h2))
        | (go_at_call 86; ((with_reducible refine HIT2.out.mono ?_); rintro e w' ⟨rfl, h2⟩; obtain ⟨k0, k1, k2, k3, k4, k5⟩ := HK2.out _ h2; have k5b := k5 _ hGa; have k6 := (((Below.refl w'.heap.size w').alloc (Nat.le_refl _) (.cells #[.string ⟨#[]⟩, .string ⟨#[32, 102, 114, 111, 109, 61, 108, 97, 115, 116]⟩, .string ⟨#[32, 102, 114, 111, 109, 61, 110, 101, 119]⟩, .string (⟨#[32, 102, 114, 111, 109, 61]⟩ ++ XX)] 9)).cell (p := ⟨w1.heap.size, a, none⟩) (World.block_lt_of_cell? w' _ k5b)).trans k5b; have HBB := Lib.hid (hba.trans (h2.mono hba.size)); clear h2 k5))
      go_wp2_with fail
      refine hK.out _ _ ?_ (fun hHeld1 => ?_)
      · (try dsimp only); first | (with_reducible exact ⟨k0, k1, k2, k3, k4⟩) | go_keep
      clear hK K hHeld0
      (try simp only [Act.put, List.getElem_toArray, List.getElem_cons_succ, List.getElem_cons_zero, List.setIfInBounds_toArray, List.set_cons_zero, List.set_cons_succ])
      refine wpAnyH_take (i := 9) (v := ?_) rfl (by kernel_rfl) (by kernel_rfl) (by kernel_rfl) (fun _ _ _ h => h) (Or.inl ⟨by rfl, ?_⟩) (by assumption) ?_
      rotate_left
      · intro w hSw; (try dsimp only at hSw); first | (go_simp; done) | (go_simp; with_reducible rfl)
      (try simp only [Act.put, List.getElem_toArray, List.getElem_cons_succ, List.getElem_cons_zero, List.setIfInBounds_toArray, List.set_cons_zero, List.set_cons_succ])
      refine wpAnyH_ready (rs := [10, 16]) (by kernel_rfl) (by simp) ?_
      refine AllReadyH.cons rfl (fun K hK => ?_) ?_
      · skip
        go_simp
        refine hK.out _ _ ?_ (fun hHeld2 => ?_)
        · (try dsimp only); first | (with_reducible exact ⟨k0, k1, k2, k3, k4⟩) | go_keep
        clear hK K hHeld1
        (try simp only [Act.put, List.getElem_toArray, List.getElem_cons_succ, List.getElem_cons_zero, List.setIfInBounds_toArray, List.set_cons_zero, List.set_cons_succ])
        refine wpAnyH_take (i := 13) (v := ?_) rfl (by kernel_rfl) (by kernel_rfl) (by kernel_rfl) (fun _ _ _ h => h) (Or.inl ⟨by rfl, ?_⟩) (by assumption) ?_
        rotate_left
        · intro w hSw; (try dsimp only at hSw); first | (go_simp; done) | (go_simp; with_reducible rfl)
        (try simp only [Act.put, List.getElem_toArray, List.getElem_cons_succ, List.getElem_cons_zero, List.setIfInBounds_toArray, List.set_cons_zero, List.set_cons_succ])
        refine wpAnyH_ready (rs := [14, 16]) (by kernel_rfl) (by simp) ?_
        refine AllReadyH.cons rfl (fun K hK => ?_) ?_
        · skip
          go_simp
          refine hK.out _ _ ?_ (fun hHeld3 => ?_)
          · (try dsimp only); first | (with_reducible exact ⟨k0, k1, k2, k3, k4⟩) | go_keep
          clear hK K hHeld2
          (try simp only [Act.put, List.getElem_toArray, List.getElem_cons_succ, List.getElem_cons_zero, List.setIfInBounds_toArray, List.set_cons_zero, List.set_cons_succ])
          refine wpAnyH_take (i := 15) (v := ?_) rfl (by kernel_rfl) (by kernel_rfl) (by kernel_rfl) (fun _ _ _ h => h) (Or.inl ⟨by rfl, ?_⟩) (by assumption) ?_
          rotate_left
          · intro w hSw; (try dsimp only at hSw); first | (go_simp; done) | (go_simp; with_reducible rfl)
          (try simp only [Act.put, List.getElem_toArray, List.getElem_cons_succ, List.getElem_cons_zero, List.setIfInBounds_toArray, List.set_cons_zero, List.set_cons_succ])
          refine wpAnyH_ready (rs := [16]) (by kernel_rfl) (by simp) ?_
          refine AllReadyH.cons rfl (fun K hK => ?_) AllReadyH.nil
          go_simp
          refine hK.out _ _ ?_ (fun hHeld4 => ?_)
          · (try dsimp only); first | (with_reducible exact ⟨k0, k1, k2, k3, k4⟩) | go_keep
          clear hK K hHeld3
          (try simp only [Act.put, List.getElem_toArray, List.getElem_cons_succ, List.getElem_cons_zero, List.setIfInBounds_toArray, List.set_cons_zero, List.set_cons_succ])
          refine wpAnyH_take (i := 19) (v := ?_) rfl (by kernel_rfl) (by kernel_rfl) (by kernel_rfl) (fun _ _ _ h => h) (Or.inl ⟨by rfl, ?_⟩) (by assumption) ?_
          rotate_left
          · intro w hSw; (try dsimp only at hSw); first | (go_simp; done) | (go_simp; with_reducible rfl)
          (try simp only [Act.put, List.getElem_toArray, List.getElem_cons_succ, List.getElem_cons_zero, List.setIfInBounds_toArray, List.set_cons_zero, List.set_cons_succ])
          refine wpAnyH_ready (rs := [20]) (by kernel_rfl) (by simp) ?_
          refine AllReadyH.cons rfl (fun K hK => ?_) AllReadyH.nil
          go_simp
          refine hK.out _ _ ?_ (fun hHeld5 => ?_)
          · (try dsimp only); first | (with_reducible exact ⟨k0, k1, k2, k3, k4⟩) | go_keep
          clear hK K hHeld4
          (try simp only [Act.put, List.getElem_toArray, List.getElem_cons_succ, List.getElem_cons_zero, List.setIfInBounds_toArray, List.set_cons_zero, List.set_cons_succ])
          refine wpAnyH_take (i := 21) (v := ?_) rfl (by kernel_rfl) (by kernel_rfl) (by kernel_rfl) (fun _ _ _ h => h) (Or.inl ⟨by rfl, ?_⟩) (by assumption) ?_
          rotate_left
          · intro w hSw; (try dsimp only at hSw); first | (go_simp; done) | (go_simp; with_reducible rfl)
          (try simp only [Act.put, List.getElem_toArray, List.getElem_cons_succ, List.getElem_cons_zero, List.setIfInBounds_toArray, List.set_cons_zero, List.set_cons_succ])
          refine wpAnyH_take (i := 22) (v := ?_) rfl (by kernel_rfl) (by kernel_rfl) (by kernel_rfl) (fun _ _ _ h => h) (Or.inl ⟨by rfl, ?_⟩) (by assumption) ?_
          rotate_left
          · intro w hSw; (try dsimp only at hSw); first | (go_simp; done) | (go_simp; with_reducible rfl)
          (try simp only [Act.put, List.getElem_toArray, List.getElem_cons_succ, List.getElem_cons_zero, List.setIfInBounds_toArray, List.set_cons_zero, List.set_cons_succ])
          refine wpAnyH_done (by kernel_rfl) ?_ _
          go_wp2_with fail
          go_meet
          have hb1 := HBB.out
          have hb2 := fun o => hb1.alloc hb1.size o
          refine ⟨⟨_, rfl, by simp [HFD.out, HGD.out], ?_⟩, HIR.out.step ?_⟩
          · simp only [ByteArray.size_append]
            have h1 : (⟨#[32]⟩ : ByteArray).size = 1 := rfl
            omega
          · first | exact (hb2 _).alloc (hb2 _).size _ | exact hb2 _ | exact ((hb2 _).alloc (hb2 _).size _).drew | exact (hb2 _).drew
        refine AllReadyH.cons rfl (fun K hK => ?_) AllReadyH.nil
        go_simp
        refine hK.out _ _ ?_ (fun hHeld6 => ?_)
        · (try dsimp only); first | (with_reducible exact ⟨k0, k1, k2, k3, k4⟩) | go_keep
        clear hK K hHeld2
        (try simp only [Act.put, List.getElem_toArray, List.getElem_cons_succ, List.getElem_cons_zero, List.setIfInBounds_toArray, List.set_cons_zero, List.set_cons_succ])
        refine wpAnyH_take (i := 19) (v := ?_) rfl (by kernel_rfl) (by kernel_rfl) (by kernel_rfl) (fun _ _ _ h => h) (Or.inl ⟨by rfl, ?_⟩) (by assumption) ?_
        rotate_left
        · intro w hSw; (try dsimp only at hSw); first | (go_simp; done) | (go_simp; with_reducible rfl)
        (try simp only [Act.put, List.getElem_toArray, List.getElem_cons_succ, List.getElem_cons_zero, List.setIfInBounds_toArray, List.set_cons_zero, List.set_cons_succ])
        refine wpAnyH_ready (rs := [14, 20]) (by kernel_rfl) (by simp) ?_
        refine AllReadyH.cons rfl (fun K hK => ?_) ?_
        · skip
          go_simp
          refine hK.out _ _ ?_ (fun hHeld7 => ?_)
          · (try dsimp only); first | (with_reducible exact ⟨k0, k1, k2, k3, k4⟩) | go_keep
          clear hK K hHeld6
          (try simp only [Act.put, List.getElem_toArray, List.getElem_cons_succ, List.getElem_cons_zero, List.setIfInBounds_toArray, List.set_cons_zero, List.set_cons_succ])
          refine wpAnyH_take (i := 15) (v := ?_) rfl (by kernel_rfl) (by kernel_rfl) (by kernel_rfl) (fun _ _ _ h => h) (Or.inl ⟨by rfl, ?_⟩) (by assumption) ?_
          rotate_left
          · intro w hSw; (try dsimp only at hSw); first | (go_simp; done) | (go_simp; with_reducible rfl)
          (try simp only [Act.put, List.getElem_toArray, List.getElem_cons_succ, List.getElem_cons_zero, List.setIfInBounds_toArray, List.set_cons_zero, List.set_cons_succ])
          refine wpAnyH_ready (rs := [20]) (by kernel_rfl) (by simp) ?_
          refine AllReadyH.cons rfl (fun K hK => ?_) AllReadyH.nil
          go_simp
          refine hK.out _ _ ?_ (fun hHeld8 => ?_)
          · (try dsimp only); first | (with_reducible exact ⟨k0, k1, k2, k3, k4⟩) | go_keep
          clear hK K hHeld7
          (try simp only [Act.put, List.getElem_toArray, List.getElem_cons_succ, List.getElem_cons_zero, List.setIfInBounds_toArray, List.set_cons_zero, List.set_cons_succ])
          refine wpAnyH_take (i := 21) (v := ?_) rfl (by kernel_rfl) (by kernel_rfl) (by kernel_rfl) (fun _ _ _ h => h) (Or.inl ⟨by rfl, ?_⟩) (by assumption) ?_
          rotate_left
          · intro w hSw; (try dsimp only at hSw); first | (go_simp; done) | (go_simp; with_reducible rfl)
          (try simp only [Act.put, List.getElem_toArray, List.getElem_cons_succ, List.getElem_cons_zero, List.setIfInBounds_toArray, List.set_cons_zero, List.set_cons_succ])
          refine wpAnyH_take (i := 22) (v := ?_) rfl (by kernel_rfl) (by kernel_rfl) (by kernel_rfl) (fun _ _ _ h => h) (Or.inl ⟨by rfl, ?_⟩) (by assumption) ?_
          rotate_left
          · intro w hSw; (try dsimp only at hSw); first | (go_simp; done) | (go_simp; with_reducible rfl)
          (try simp only [Act.put, List.getElem_toArray, List.getElem_cons_succ, List.getElem_cons_zero, List.setIfInBounds_toArray, List.set_cons_zero, List.set_cons_succ])
          refine wpAnyH_done (by kernel_rfl) ?_ _
          go_wp2_with fail
          go_meet
          have hb1 := HBB.out
          have hb2 := fun o => hb1.alloc hb1.size o
          refine ⟨⟨_, rfl, by simp [HFD.out, HGD.out], ?_⟩, HIR.out.step ?_⟩
          · simp only [ByteArray.size_append]
            have h1 : (⟨#[32]⟩ : ByteArray).size = 1 := rfl
            omega
          · first | exact (hb2 _).alloc (hb2 _).size _ | exact hb2 _ | exact ((hb2 _).alloc (hb2 _).size _).drew | exact (hb2 _).drew
        refine AllReadyH.cons rfl (fun K hK => ?_) AllReadyH.nil
        go_simp
        refine hK.out _ _ ?_ (fun hHeld9 => ?_)
        · (try dsimp only); first | (with_reducible exact ⟨k0, k1, k2, k3, k4⟩) | go_keep
        clear hK K hHeld6
        (try simp only [Act.put, List.getElem_toArray, List.getElem_cons_succ, List.getElem_cons_zero, List.setIfInBounds_toArray, List.set_cons_zero, List.set_cons_succ])
        refine wpAnyH_ready (rs := [14]) (by kernel_rfl) (by simp) ?_
        refine AllReadyH.cons rfl (fun K hK => ?_) AllReadyH.nil
        go_simp
        refine hK.out _ _ ?_ (fun hHeld10 => ?_)
        · (try dsimp only); first | (with_reducible exact ⟨k0, k1, k2, k3, k4⟩) | go_keep
        clear hK K hHeld9
        (try simp only [Act.put, List.getElem_toArray, List.getElem_cons_succ, List.getElem_cons_zero, List.setIfInBounds_toArray, List.set_cons_zero, List.set_cons_succ])
        refine wpAnyH_take (i := 15) (v := ?_) rfl (by kernel_rfl) (by kernel_rfl) (by kernel_rfl) (fun _ _ _ h => h) (Or.inl ⟨by rfl, ?_⟩) (by assumption) ?_
        rotate_left
        · intro w hSw; (try dsimp only at hSw); first | (go_simp; done) | (go_simp; with_reducible rfl)
        (try simp only [Act.put, List.getElem_toArray, List.getElem_cons_succ, List.getElem_cons_zero, List.setIfInBounds_toArray, List.set_cons_zero, List.set_cons_succ])
        refine wpAnyH_take (i := 21) (v := ?_) rfl (by kernel_rfl) (by kernel_rfl) (by kernel_rfl) (fun _ _ _ h => h) (Or.inl ⟨by rfl, ?_⟩) (by assumption) ?_
        rotate_left
        · intro w hSw; (try dsimp only at hSw); first | (go_simp; done) | (go_simp; with_reducible rfl)
        (try simp only [Act.put, List.getElem_toArray, List.getElem_cons_succ, List.getElem_cons_zero, List.setIfInBounds_toArray, List.set_cons_zero, List.set_cons_succ])
        refine wpAnyH_take (i := 22) (v := ?_) rfl (by kernel_rfl) (by kernel_rfl) (by kernel_rfl) (fun _ _ _ h => h) (Or.inl ⟨by rfl, ?_⟩) (by assumption) ?_
        rotate_left
        · intro w hSw; (try dsimp only at hSw); first | (go_simp; done) | (go_simp; with_reducible rfl)
        (try simp only [Act.put, List.getElem_toArray, List.getElem_cons_succ, List.getElem_cons_zero, List.setIfInBounds_toArray, List.set_cons_zero, List.set_cons_succ])
        refine wpAnyH_done (by kernel_rfl) ?_ _
        go_wp2_with fail
        go_meet
        have hb1 := HBB.out
        have hb2 := fun o => hb1.alloc hb1.size o
        refine ⟨⟨_, rfl, by simp [HFD.out, HGD.out], ?_⟩, HIR.out.step ?_⟩
        · simp only [ByteArray.size_append]
          have h1 : (⟨#[32]⟩ : ByteArray).size = 1 := rfl
          omega
        · first | exact (hb2 _).alloc (hb2 _).size _ | exact hb2 _ | exact ((hb2 _).alloc (hb2 _).size _).drew | exact (hb2 _).drew
      refine AllReadyH.cons rfl (fun K hK => ?_) AllReadyH.nil
      go_simp
      refine hK.out _ _ ?_ (fun hHeld11 => ?_)
      · (try dsimp only); first | (with_reducible exact ⟨k0, k1, k2, k3, k4⟩) | go_keep
      clear hK K hHeld1
      (try simp only [Act.put, List.getElem_toArray, List.getElem_cons_succ, List.getElem_cons_zero, List.setIfInBounds_toArray, List.set_cons_zero, List.set_cons_succ])
      refine wpAnyH_take (i := 19) (v := ?_) rfl (by kernel_rfl) (by kernel_rfl) (by kernel_rfl) (fun _ _ _ h => h) (Or.inl ⟨by rfl, ?_⟩) (by assumption) ?_
      rotate_left
      · intro w hSw; (try dsimp only at hSw); first | (go_simp; done) | (go_simp; with_reducible rfl)
      (try simp only [Act.put, List.getElem_toArray, List.getElem_cons_succ, List.getElem_cons_zero, List.setIfInBounds_toArray, List.set_cons_zero, List.set_cons_succ])
      refine wpAnyH_ready (rs := [10, 20]) (by kernel_rfl) (by simp) ?_
      refine AllReadyH.cons rfl (fun K hK => ?_) ?_
      · skip
        go_simp
        refine hK.out _ _ ?_ (fun hHeld12 => ?_)
        · (try dsimp only); first | (with_reducible exact ⟨k0, k1, k2, k3, k4⟩) | go_keep
        clear hK K hHeld11
        (try simp only [Act.put, List.getElem_toArray, List.getElem_cons_succ, List.getElem_cons_zero, List.setIfInBounds_toArray, List.set_cons_zero, List.set_cons_succ])
        refine wpAnyH_take (i := 13) (v := ?_) rfl (by kernel_rfl) (by kernel_rfl) (by kernel_rfl) (fun _ _ _ h => h) (Or.inl ⟨by rfl, ?_⟩) (by assumption) ?_
        rotate_left
        · intro w hSw; (try dsimp only at hSw); first | (go_simp; done) | (go_simp; with_reducible rfl)
        (try simp only [Act.put, List.getElem_toArray, List.getElem_cons_succ, List.getElem_cons_zero, List.setIfInBounds_toArray, List.set_cons_zero, List.set_cons_succ])
        refine wpAnyH_ready (rs := [14, 20]) (by kernel_rfl) (by simp) ?_
        refine AllReadyH.cons rfl (fun K hK => ?_) ?_
        · skip
          go_simp
          refine hK.out _ _ ?_ (fun hHeld13 => ?_)
          · (try dsimp only); first | (with_reducible exact ⟨k0, k1, k2, k3, k4⟩) | go_keep
          clear hK K hHeld12
          (try simp only [Act.put, List.getElem_toArray, List.getElem_cons_succ, List.getElem_cons_zero, List.setIfInBounds_toArray, List.set_cons_zero, List.set_cons_succ])
          refine wpAnyH_take (i := 15) (v := ?_) rfl (by kernel_rfl) (by kernel_rfl) (by kernel_rfl) (fun _ _ _ h => h) (Or.inl ⟨by rfl, ?_⟩) (by assumption) ?_
          rotate_left
          · intro w hSw; (try dsimp only at hSw); first | (go_simp; done) | (go_simp; with_reducible rfl)
          (try simp only [Act.put, List.getElem_toArray, List.getElem_cons_succ, List.getElem_cons_zero, List.setIfInBounds_toArray, List.set_cons_zero, List.set_cons_succ])
          refine wpAnyH_ready (rs := [20]) (by kernel_rfl) (by simp) ?_
          refine AllReadyH.cons rfl (fun K hK => ?_) AllReadyH.nil
          go_simp
          refine hK.out _ _ ?_ (fun hHeld14 => ?_)
          · (try dsimp only); first | (with_reducible exact ⟨k0, k1, k2, k3, k4⟩) | go_keep
          clear hK K hHeld13
          (try simp only [Act.put, List.getElem_toArray, List.getElem_cons_succ, List.getElem_cons_zero, List.setIfInBounds_toArray, List.set_cons_zero, List.set_cons_succ])
          refine wpAnyH_take (i := 21) (v := ?_) rfl (by kernel_rfl) (by kernel_rfl) (by kernel_rfl) (fun _ _ _ h => h) (Or.inl ⟨by rfl, ?_⟩) (by assumption) ?_
          rotate_left
          · intro w hSw; (try dsimp only at hSw); first | (go_simp; done) | (go_simp; with_reducible rfl)
          (try simp only [Act.put, List.getElem_toArray, List.getElem_cons_succ, List.getElem_cons_zero, List.setIfInBounds_toArray, List.set_cons_zero, List.set_cons_succ])
          refine wpAnyH_take (i := 22) (v := ?_) rfl (by kernel_rfl) (by kernel_rfl) (by kernel_rfl) (fun _ _ _ h => h) (Or.inl ⟨by rfl, ?_⟩) (by assumption) ?_
          rotate_left
          · intro w hSw; (try dsimp only at hSw); first | (go_simp; done) | (go_simp; with_reducible rfl)
          (try simp only [Act.put, List.getElem_toArray, List.getElem_cons_succ, List.getElem_cons_zero, List.setIfInBounds_toArray, List.set_cons_zero, List.set_cons_succ])
          refine wpAnyH_done (by kernel_rfl) ?_ _
          go_wp2_with fail
          go_meet
          have hb1 := HBB.out
          have hb2 := fun o => hb1.alloc hb1.size o
          refine ⟨⟨_, rfl, by simp [HFD.out, HGD.out], ?_⟩, HIR.out.step ?_⟩
          · simp only [ByteArray.size_append]
            have h1 : (⟨#[32]⟩ : ByteArray).size = 1 := rfl
            omega
          · first | exact (hb2 _).alloc (hb2 _).size _ | exact hb2 _ | exact ((hb2 _).alloc (hb2 _).size _).drew | exact (hb2 _).drew
        refine AllReadyH.cons rfl (fun K hK => ?_) AllReadyH.nil
        go_simp
        refine hK.out _ _ ?_ (fun hHeld15 => ?_)
        · (try dsimp only); first | (with_reducible exact ⟨k0, k1, k2, k3, k4⟩) | go_keep
        clear hK K hHeld12
        (try simp only [Act.put, List.getElem_toArray, List.getElem_cons_succ, List.getElem_cons_zero, List.setIfInBounds_toArray, List.set_cons_zero, List.set_cons_succ])
        refine wpAnyH_ready (rs := [14]) (by kernel_rfl) (by simp) ?_
        refine AllReadyH.cons rfl (fun K hK => ?_) AllReadyH.nil
        go_simp
        refine hK.out _ _ ?_ (fun hHeld16 => ?_)
        · (try dsimp only); first | (with_reducible exact ⟨k0, k1, k2, k3, k4⟩) | go_keep
        clear hK K hHeld15
        (try simp only [Act.put, List.getElem_toArray, List.getElem_cons_succ, List.getElem_cons_zero, List.setIfInBounds_toArray, List.set_cons_zero, List.set_cons_succ])
        refine wpAnyH_take (i := 15) (v := ?_) rfl (by kernel_rfl) (by kernel_rfl) (by kernel_rfl) (fun _ _ _ h => h) (Or.inl ⟨by rfl, ?_⟩) (by assumption) ?_
        rotate_left
        · intro w hSw; (try dsimp only at hSw); first | (go_simp; done) | (go_simp; with_reducible rfl)
        (try simp only [Act.put, List.getElem_toArray, List.getElem_cons_succ, List.getElem_cons_zero, List.setIfInBounds_toArray, List.set_cons_zero, List.set_cons_succ])
        refine wpAnyH_take (i := 21) (v := ?_) rfl (by kernel_rfl) (by kernel_rfl) (by kernel_rfl) (fun _ _ _ h => h) (Or.inl ⟨by rfl, ?_⟩) (by assumption) ?_
        rotate_left
        · intro w hSw; (try dsimp only at hSw); first | (go_simp; done) | (go_simp; with_reducible rfl)
        (try simp only [Act.put, List.getElem_toArray, List.getElem_cons_succ, List.getElem_cons_zero, List.setIfInBounds_toArray, List.set_cons_zero, List.set_cons_succ])
        refine wpAnyH_take (i := 22) (v := ?_) rfl (by kernel_rfl) (by kernel_rfl) (by kernel_rfl) (fun _ _ _ h => h) (Or.inl ⟨by rfl, ?_⟩) (by assumption) ?_
        rotate_left
        · intro w hSw; (try dsimp only at hSw); first | (go_simp; done) | (go_simp; with_reducible rfl)
        (try simp only [Act.put, List.getElem_toArray, List.getElem_cons_succ, List.getElem_cons_zero, List.setIfInBounds_toArray, List.set_cons_zero, List.set_cons_succ])
        refine wpAnyH_done (by kernel_rfl) ?_ _
        go_wp2_with fail
        go_meet
        have hb1 := HBB.out
        have hb2 := fun o => hb1.alloc hb1.size o
        refine ⟨⟨_, rfl, by simp [HFD.out, HGD.out], ?_⟩, HIR.out.step ?_⟩
        · simp only [ByteArray.size_append]
          have h1 : (⟨#[32]⟩ : ByteArray).size = 1 := rfl
          omega
        · first | exact (hb2 _).alloc (hb2 _).size _ | exact hb2 _ | exact ((hb2 _).alloc (hb2 _).size _).drew | exact (hb2 _).drew
      refine AllReadyH.cons rfl (fun K hK => ?_) AllReadyH.nil
      go_simp
      refine hK.out _ _ ?_ (fun hHeld17 => ?_)
      · (try dsimp only); first | (with_reducible exact ⟨k0, k1, k2, k3, k4⟩) | go_keep
      clear hK K hHeld11
      (try simp only [Act.put, List.getElem_toArray, List.getElem_cons_succ, List.getElem_cons_zero, List.setIfInBounds_toArray, List.set_cons_zero, List.set_cons_succ])
      refine wpAnyH_ready (rs := [10]) (by kernel_rfl) (by simp) ?_
      refine AllReadyH.cons rfl (fun K hK => ?_) AllReadyH.nil
      go_simp
      refine hK.out _ _ ?_ (fun hHeld18 => ?_)
      · (try dsimp only); first | (with_reducible exact ⟨k0, k1, k2, k3, k4⟩) | go_keep
      clear hK K hHeld17
      (try simp only [Act.put, List.getElem_toArray, List.getElem_cons_succ, List.getElem_cons_zero, List.setIfInBounds_toArray, List.set_cons_zero, List.set_cons_succ])
      refine wpAnyH_take (i := 13) (v := ?_) rfl (by kernel_rfl) (by kernel_rfl) (by kernel_rfl) (fun _ _ _ h => h) (Or.inl ⟨by rfl, ?_⟩) (by assumption) ?_
      rotate_left
      · intro w hSw; (try dsimp only at hSw); first | (go_simp; done) | (go_simp; with_reducible rfl)
      (try simp only [Act.put, List.getElem_toArray, List.getElem_cons_succ, List.getElem_cons_zero, List.setIfInBounds_toArray, List.set_cons_zero, List.set_cons_succ])
      refine wpAnyH_ready (rs := [14]) (by kernel_rfl) (by simp) ?_
      refine AllReadyH.cons rfl (fun K hK => ?_) AllReadyH.nil
      go_simp
      refine hK.out _ _ ?_ (fun hHeld19 => ?_)
      · (try dsimp only); first | (with_reducible exact ⟨k0, k1, k2, k3, k4⟩) | go_keep
      clear hK K hHeld18
      (try simp only [Act.put, List.getElem_toArray, List.getElem_cons_succ, List.getElem_cons_zero, List.setIfInBounds_toArray, List.set_cons_zero, List.set_cons_succ])
      refine wpAnyH_take (i := 15) (v := ?_) rfl (by kernel_rfl) (by kernel_rfl) (by kernel_rfl) (fun _ _ _ h => h) (Or.inl ⟨by rfl, ?_⟩) (by assumption) ?_
      rotate_left
      · intro w hSw; (try dsimp only at hSw); first | (go_simp; done) | (go_simp; with_reducible rfl)
      (try simp only [Act.put, List.getElem_toArray, List.getElem_cons_succ, List.getElem_cons_zero, List.setIfInBounds_toArray, List.set_cons_zero, List.set_cons_succ])
      refine wpAnyH_take (i := 21) (v := ?_) rfl (by kernel_rfl) (by kernel_rfl) (by kernel_rfl) (fun _ _ _ h => h) (Or.inl ⟨by rfl, ?_⟩) (by assumption) ?_
      rotate_left
      · intro w hSw; (try dsimp only at hSw); first | (go_simp; done) | (go_simp; with_reducible rfl)
      (try simp only [Act.put, List.getElem_toArray, List.getElem_cons_succ, List.getElem_cons_zero, List.setIfInBounds_toArray, List.set_cons_zero, List.set_cons_succ])
      refine wpAnyH_take (i := 22) (v := ?_) rfl (by kernel_rfl) (by kernel_rfl) (by kernel_rfl) (fun _ _ _ h => h) (Or.inl ⟨by rfl, ?_⟩) (by assumption) ?_
      rotate_left
      · intro w hSw; (try dsimp only at hSw); first | (go_simp; done) | (go_simp; with_reducible rfl)
      (try simp only [Act.put, List.getElem_toArray, List.getElem_cons_succ, List.getElem_cons_zero, List.setIfInBounds_toArray, List.set_cons_zero, List.set_cons_succ])
      refine wpAnyH_done (by kernel_rfl) ?_ _
      go_wp2_with fail
      go_meet
      have hb1 := HBB.out
      have hb2 := fun o => hb1.alloc hb1.size o
      refine ⟨⟨_, rfl, by simp [HFD.out, HGD.out], ?_⟩, HIR.out.step ?_⟩
      · simp only [ByteArray.size_append]
        have h1 : (⟨#[32]⟩ : ByteArray).size = 1 := rfl
        omega
      · first | exact (hb2 _).alloc (hb2 _).size _ | exact hb2 _ | exact ((hb2 _).alloc (hb2 _).size _).drew | exact (hb2 _).drew
    refine AllReadyH.cons rfl (fun K hK => ?_) AllReadyH.nil
    go_simp
    refine hK.out _ _ ?_ (fun hHeld20 => ?_)
    · (try dsimp only); first | (with_reducible exact ⟨k0, k1, k2, k3, k4⟩) | go_keep
    clear hK K hHeld0
    (try simp only [Act.put, List.getElem_toArray, List.getElem_cons_succ, List.getElem_cons_zero, List.setIfInBounds_toArray, List.set_cons_zero, List.set_cons_succ])
    refine wpAnyH_take (i := 19) (v := ?_) rfl (by kernel_rfl) (by kernel_rfl) (by kernel_rfl) (fun _ _ _ h => h) (Or.inl ⟨by rfl, ?_⟩) (by assumption) ?_
    rotate_left
    · intro w hSw; (try dsimp only at hSw); first | (go_simp; done) | (go_simp; with_reducible rfl)
    (try simp only [Act.put, List.getElem_toArray, List.getElem_cons_succ, List.getElem_cons_zero, List.setIfInBounds_toArray, List.set_cons_zero, List.set_cons_succ])
    refine wpAnyH_ready (rs := [8, 20]) (by kernel_rfl) (by simp) ?_
    refine AllReadyH.cons rfl (fun K hK => ?_) ?_
    · skip
      go_simp
      first
        | (go_at_call 86; ((with_reducible refine HIT1.out.mono ?_); rintro e w' ⟨rfl, h2⟩; obtain ⟨k0, k1, k2, k3, k4⟩ := HK1.out _ h2; have HBB := Lib.hid (((Below.refl w1.heap.size w1).drew).trans h2); clear h2))
        | (go_at_call 86; ((with_reducible refine HIT2.out.mono ?_); rintro e w' ⟨rfl, h2⟩; obtain ⟨k0, k1, k2, k3, k4, k5⟩ := HK2.out _ h2; have k5b := k5 _ hGa; have k6 := (((Below.refl w'.heap.size w').alloc (Nat.le_refl _) (.cells #[.string ⟨#[]⟩, .string ⟨#[32, 102, 114, 111, 109, 61, 108, 97, 115, 116]⟩, .string ⟨#[32, 102, 114, 111, 109, 61, 110, 101, 119]⟩, .string (⟨#[32, 102, 114, 111, 109, 61]⟩ ++ XX)] 9)).cell (p := ⟨w1.heap.size, a, none⟩) (World.block_lt_of_cell? w' _ k5b)).trans k5b; have HBB := Lib.hid (hba.trans (h2.mono hba.size)); clear h2 k5))
      go_wp2_with fail
      refine hK.out _ _ ?_ (fun hHeld21 => ?_)
      · (try dsimp only); first | (with_reducible exact ⟨k0, k1, k2, k3, k4⟩) | go_keep
      clear hK K hHeld20
      (try simp only [Act.put, List.getElem_toArray, List.getElem_cons_succ, List.getElem_cons_zero, List.setIfInBounds_toArray, List.set_cons_zero, List.set_cons_succ])
      refine wpAnyH_take (i := 9) (v := ?_) rfl (by kernel_rfl) (by kernel_rfl) (by kernel_rfl) (fun _ _ _ h => h) (Or.inl ⟨by rfl, ?_⟩) (by assumption) ?_
      rotate_left
      · intro w hSw; (try dsimp only at hSw); first | (go_simp; done) | (go_simp; with_reducible rfl)
      (try simp only [Act.put, List.getElem_toArray, List.getElem_cons_succ, List.getElem_cons_zero, List.setIfInBounds_toArray, List.set_cons_zero, List.set_cons_succ])
      refine wpAnyH_ready (rs := [10, 20]) (by kernel_rfl) (by simp) ?_
      refine AllReadyH.cons rfl (fun K hK => ?_) ?_
      · skip
        go_simp
        refine hK.out _ _ ?_ (fun hHeld22 => ?_)
        · (try dsimp only); first | (with_reducible exact ⟨k0, k1, k2, k3, k4⟩) | go_keep
        clear hK K hHeld21
        (try simp only [Act.put, List.getElem_toArray, List.getElem_cons_succ, List.getElem_cons_zero, List.setIfInBounds_toArray, List.set_cons_zero, List.set_cons_succ])
        refine wpAnyH_take (i := 13) (v := ?_) rfl (by kernel_rfl) (by kernel_rfl) (by kernel_rfl) (fun _ _ _ h => h) (Or.inl ⟨by rfl, ?_⟩) (by assumption) ?_
        rotate_left
        · intro w hSw; (try dsimp only at hSw); first | (go_simp; done) | (go_simp; with_reducible rfl)
        (try simp only [Act.put, List.getElem_toArray, List.getElem_cons_succ, List.getElem_cons_zero, List.setIfInBounds_toArray, List.set_cons_zero, List.set_cons_succ])
        refine wpAnyH_ready (rs := [14, 20]) (by kernel_rfl) (by simp) ?_
        refine AllReadyH.cons rfl (fun K hK => ?_) ?_
        · skip
          go_simp
          refine hK.out _ _ ?_ (fun hHeld23 => ?_)
          · (try dsimp only); first | (with_reducible exact ⟨k0, k1, k2, k3, k4⟩) | go_keep
          clear hK K hHeld22
          (try simp only [Act.put, List.getElem_toArray, List.getElem_cons_succ, List.getElem_cons_zero, List.setIfInBounds_toArray, List.set_cons_zero, List.set_cons_succ])
          refine wpAnyH_take (i := 15) (v := ?_) rfl (by kernel_rfl) (by kernel_rfl) (by kernel_rfl) (fun _ _ _ h => h) (Or.inl ⟨by rfl, ?_⟩) (by assumption) ?_
          rotate_left
          · intro w hSw; (try dsimp only at hSw); first | (go_simp; done) | (go_simp; with_reducible rfl)
          (try simp only [Act.put, List.getElem_toArray, List.getElem_cons_succ, List.getElem_cons_zero, List.setIfInBounds_toArray, List.set_cons_zero, List.set_cons_succ])
          refine wpAnyH_ready (rs := [20]) (by kernel_rfl) (by simp) ?_
          refine AllReadyH.cons rfl (fun K hK => ?_) AllReadyH.nil
          go_simp
          refine hK.out _ _ ?_ (fun hHeld24 => ?_)
          · (try dsimp only); first | (with_reducible exact ⟨k0, k1, k2, k3, k4⟩) | go_keep
          clear hK K hHeld23
          (try simp only [Act.put, List.getElem_toArray, List.getElem_cons_succ, List.getElem_cons_zero, List.setIfInBounds_toArray, List.set_cons_zero, List.set_cons_succ])
          refine wpAnyH_take (i := 21) (v := ?_) rfl (by kernel_rfl) (by kernel_rfl) (by kernel_rfl) (fun _ _ _ h => h) (Or.inl ⟨by rfl, ?_⟩) (by assumption) ?_
          rotate_left
          · intro w hSw; (try dsimp only at hSw); first | (go_simp; done) | (go_simp; with_reducible rfl)
          (try simp only [Act.put, List.getElem_toArray, List.getElem_cons_succ, List.getElem_cons_zero, List.setIfInBounds_toArray, List.set_cons_zero, List.set_cons_succ])
          refine wpAnyH_take (i := 22) (v := ?_) rfl (by kernel_rfl) (by kernel_rfl) (by kernel_rfl) (fun _ _ _ h => h) (Or.inl ⟨by rfl, ?_⟩) (by assumption) ?_
          rotate_left
          · intro w hSw; (try dsimp only at hSw); first | (go_simp; done) | (go_simp; with_reducible rfl)
          (try simp only [Act.put, List.getElem_toArray, List.getElem_cons_succ, List.getElem_cons_zero, List.setIfInBounds_toArray, List.set_cons_zero, List.set_cons_succ])
          refine wpAnyH_done (by kernel_rfl) ?_ _
          go_wp2_with fail
          go_meet
          have hb1 := HBB.out
          have hb2 := fun o => hb1.alloc hb1.size o
          refine ⟨⟨_, rfl, by simp [HFD.out, HGD.out], ?_⟩, HIR.out.step ?_⟩
          · simp only [ByteArray.size_append]
            have h1 : (⟨#[32]⟩ : ByteArray).size = 1 := rfl
            omega
          · first | exact (hb2 _).alloc (hb2 _).size _ | exact hb2 _ | exact ((hb2 _).alloc (hb2 _).size _).drew | exact (hb2 _).drew
        refine AllReadyH.cons rfl (fun K hK => ?_) AllReadyH.nil
        go_simp
        refine hK.out _ _ ?_ (fun hHeld25 => ?_)
        · (try dsimp only); first | (with_reducible exact ⟨k0, k1, k2, k3, k4⟩) | go_keep
        clear hK K hHeld22
        (try simp only [Act.put, List.getElem_toArray, List.getElem_cons_succ, List.getElem_cons_zero, List.setIfInBounds_toArray, List.set_cons_zero, List.set_cons_succ])
        refine wpAnyH_ready (rs := [14]) (by kernel_rfl) (by simp) ?_
        refine AllReadyH.cons rfl (fun K hK => ?_) AllReadyH.nil
        go_simp
        refine hK.out _ _ ?_ (fun hHeld26 => ?_)
        · (try dsimp only); first | (with_reducible exact ⟨k0, k1, k2, k3, k4⟩) | go_keep
        clear hK K hHeld25
        (try simp only [Act.put, List.getElem_toArray, List.getElem_cons_succ, List.getElem_cons_zero, List.setIfInBounds_toArray, List.set_cons_zero, List.set_cons_succ])
        refine wpAnyH_take (i := 15) (v := ?_) rfl (by kernel_rfl) (by kernel_rfl) (by kernel_rfl) (fun _ _ _ h => h) (Or.inl ⟨by rfl, ?_⟩) (by assumption) ?_
        rotate_left
        · intro w hSw; (try dsimp only at hSw); first | (go_simp; done) | (go_simp; with_reducible rfl)
        (try simp only [Act.put, List.getElem_toArray, List.getElem_cons_succ, List.getElem_cons_zero, List.setIfInBounds_toArray, List.set_cons_zero, List.set_cons_succ])
        refine wpAnyH_take (i := 21) (v := ?_) rfl (by kernel_rfl) (by kernel_rfl) (by kernel_rfl) (fun _ _ _ h => h) (Or.inl ⟨by rfl, ?_⟩) (by assumption) ?_
        rotate_left
        · intro w hSw; (try dsimp only at hSw); first | (go_simp; done) | (go_simp; with_reducible rfl)
        (try simp only [Act.put, List.getElem_toArray, List.getElem_cons_succ, List.getElem_cons_zero, List.setIfInBounds_toArray, List.set_cons_zero, List.set_cons_succ])
        refine wpAnyH_take (i := 22) (v := ?_) rfl (by kernel_rfl) (by kernel_rfl) (by kernel_rfl) (fun _ _ _ h => h) (Or.inl ⟨by rfl, ?_⟩) (by assumption) ?_
        rotate_left
        · intro w hSw; (try dsimp only at hSw); first | (go_simp; done) | (go_simp; with_reducible rfl)
        (try simp only [Act.put, List.getElem_toArray, List.getElem_cons_succ, List.getElem_cons_zero, List.setIfInBounds_toArray, List.set_cons_zero, List.set_cons_succ])
        refine wpAnyH_done (by kernel_rfl) ?_ _
        go_wp2_with fail
        go_meet
        have hb1 := HBB.out
        have hb2 := fun o => hb1.alloc hb1.size o
        refine ⟨⟨_, rfl, by simp [HFD.out, HGD.out], ?_⟩, HIR.out.step ?_⟩
        · simp only [ByteArray.size_append]
          have h1 : (⟨#[32]⟩ : ByteArray).size = 1 := rfl
          omega
        · first | exact (hb2 _).alloc (hb2 _).size _ | exact hb2 _ | exact ((hb2 _).alloc (hb2 _).size _).drew | exact (hb2 _).drew
      refine AllReadyH.cons rfl (fun K hK => ?_) AllReadyH.nil
      go_simp
      refine hK.out _ _ ?_ (fun hHeld27 => ?_)
      · (try dsimp only); first | (with_reducible exact ⟨k0, k1, k2, k3, k4⟩) | go_keep
      clear hK K hHeld21
      (try simp only [Act.put, List.getElem_toArray, List.getElem_cons_succ, List.getElem_cons_zero, List.setIfInBounds_toArray, List.set_cons_zero, List.set_cons_succ])
      refine wpAnyH_ready (rs := [10]) (by kernel_rfl) (by simp) ?_
      refine AllReadyH.cons rfl (fun K hK => ?_) AllReadyH.nil
      go_simp
      refine hK.out _ _ ?_ (fun hHeld28 => ?_)
      · (try dsimp only); first | (with_reducible exact ⟨k0, k1, k2, k3, k4⟩) | go_keep
      clear hK K hHeld27
      (try simp only [Act.put, List.getElem_toArray, List.getElem_cons_succ, List.getElem_cons_zero, List.setIfInBounds_toArray, List.set_cons_zero, List.set_cons_succ])
      refine wpAnyH_take (i := 13) (v := ?_) rfl (by kernel_rfl) (by kernel_rfl) (by kernel_rfl) (fun _ _ _ h => h) (Or.inl ⟨by rfl, ?_⟩) (by assumption) ?_
      rotate_left
      · intro w hSw; (try dsimp only at hSw); first | (go_simp; done) | (go_simp; with_reducible rfl)
      (try simp only [Act.put, List.getElem_toArray, List.getElem_cons_succ, List.getElem_cons_zero, List.setIfInBounds_toArray, List.set_cons_zero, List.set_cons_succ])
      refine wpAnyH_ready (rs := [14]) (by kernel_rfl) (by simp) ?_
      refine AllReadyH.cons rfl (fun K hK => ?_) AllReadyH.nil
      go_simp
      refine hK.out _ _ ?_ (fun hHeld29 => ?_)
      · (try dsimp only); first | (with_reducible exact ⟨k0, k1, k2, k3, k4⟩) | go_keep
      clear hK K hHeld28
      (try simp only [Act.put, List.getElem_toArray, List.getElem_cons_succ, List.getElem_cons_zero, List.setIfInBounds_toArray, List.set_cons_zero, List.set_cons_succ])
      refine wpAnyH_take (i := 15) (v := ?_) rfl (by kernel_rfl) (by kernel_rfl) (by kernel_rfl) (fun _ _ _ h => h) (Or.inl ⟨by rfl, ?_⟩) (by assumption) ?_
      rotate_left
      · intro w hSw; (try dsimp only at hSw); first | (go_simp; done) | (go_simp; with_reducible rfl)
      (try simp only [Act.put, List.getElem_toArray, List.getElem_cons_succ, List.getElem_cons_zero, List.setIfInBounds_toArray, List.set_cons_zero, List.set_cons_succ])
      refine wpAnyH_take (i := 21) (v := ?_) rfl (by kernel_rfl) (by kernel_rfl) (by kernel_rfl) (fun _ _ _ h => h) (Or.inl ⟨by rfl, ?_⟩) (by assumption) ?_
      rotate_left
      · intro w hSw; (try dsimp only at hSw); first | (go_simp; done) | (go_simp; with_reducible rfl)
      (try simp only [Act.put, List.getElem_toArray, List.getElem_cons_succ, List.getElem_cons_zero, List.setIfInBounds_toArray, List.set_cons_zero, List.set_cons_succ])
      refine wpAnyH_take (i := 22) (v := ?_) rfl (by kernel_rfl) (by kernel_rfl) (by kernel_rfl) (fun _ _ _ h => h) (Or.inl ⟨by rfl, ?_⟩) (by assumption) ?_
      rotate_left
      · intro w hSw; (try dsimp only at hSw); first | (go_simp; done) | (go_simp; with_reducible rfl)
      (try simp only [Act.put, List.getElem_toArray, List.getElem_cons_succ, List.getElem_cons_zero, List.setIfInBounds_toArray, List.set_cons_zero, List.set_cons_succ])
      refine wpAnyH_done (by kernel_rfl) ?_ _
      go_wp2_with fail
      go_meet
      have hb1 := HBB.out
      have hb2 := fun o => hb1.alloc hb1.size o
      refine ⟨⟨_, rfl, by simp [HFD.out, HGD.out], ?_⟩, HIR.out.step ?_⟩
      · simp only [ByteArray.size_append]
        have h1 : (⟨#[32]⟩ : ByteArray).size = 1 := rfl
        omega
      · first | exact (hb2 _).alloc (hb2 _).size _ | exact hb2 _ | exact ((hb2 _).alloc (hb2 _).size _).drew | exact (hb2 _).drew
    refine AllReadyH.cons rfl (fun K hK => ?_) AllReadyH.nil
    go_simp
    refine hK.out _ _ ?_ (fun hHeld30 => ?_)
    · (try dsimp only); first | (with_reducible exact ⟨k0, k1, k2, k3, k4⟩) | go_keep
    clear hK K hHeld20
    (try simp only [Act.put, List.getElem_toArray, List.getElem_cons_succ, List.getElem_cons_zero, List.setIfInBounds_toArray, List.set_cons_zero, List.set_cons_succ])
    refine wpAnyH_ready (rs := [8]) (by kernel_rfl) (by simp) ?_
    refine AllReadyH.cons rfl (fun K hK => ?_) AllReadyH.nil
    go_simp
    first
      | (go_at_call 86; ((with_reducible refine HIT1.out.mono ?_); rintro e w' ⟨rfl, h2⟩; obtain ⟨k0, k1, k2, k3, k4⟩ := HK1.out _ h2; have HBB := Lib.hid (((Below.refl w1.heap.size w1).drew).trans h2); clear h2))
      | (go_at_call 86; ((with_reducible refine HIT2.out.mono ?_); rintro e w' ⟨rfl, h2⟩; obtain ⟨k0, k1, k2, k3, k4, k5⟩ := HK2.out _ h2; have k5b := k5 _ hGa; have k6 := (((Below.refl w'.heap.size w').alloc (Nat.le_refl _) (.cells #[.string ⟨#[]⟩, .string ⟨#[32, 102, 114, 111, 109, 61, 108, 97, 115, 116]⟩, .string ⟨#[32, 102, 114, 111, 109, 61, 110, 101, 119]⟩, .string (⟨#[32, 102, 114, 111, 109, 61]⟩ ++ XX)] 9)).cell (p := ⟨w1.heap.size, a, none⟩) (World.block_lt_of_cell? w' _ k5b)).trans k5b; have HBB := Lib.hid (hba.trans (h2.mono hba.size)); clear h2 k5))
    go_wp2_with fail
    refine hK.out _ _ ?_ (fun hHeld31 => ?_)
    · (try dsimp only); first | (with_reducible exact ⟨k0, k1, k2, k3, k4⟩) | go_keep
    clear hK K hHeld30
    (try simp only [Act.put, List.getElem_toArray, List.getElem_cons_succ, List.getElem_cons_zero, List.setIfInBounds_toArray, List.set_cons_zero, List.set_cons_succ])
    refine wpAnyH_take (i := 9) (v := ?_) rfl (by kernel_rfl) (by kernel_rfl) (by kernel_rfl) (fun _ _ _ h => h) (Or.inl ⟨by rfl, ?_⟩) (by assumption) ?_
    rotate_left
    · intro w hSw; (try dsimp only at hSw); first | (go_simp; done) | (go_simp; with_reducible rfl)
    (try simp only [Act.put, List.getElem_toArray, List.getElem_cons_succ, List.getElem_cons_zero, List.setIfInBounds_toArray, List.set_cons_zero, List.set_cons_succ])
    refine wpAnyH_ready (rs := [10]) (by kernel_rfl) (by simp) ?_
    refine AllReadyH.cons rfl (fun K hK => ?_) AllReadyH.nil
    go_simp
    refine hK.out _ _ ?_ (fun hHeld32 => ?_)
    · (try dsimp only); first | (with_reducible exact ⟨k0, k1, k2, k3, k4⟩) | go_keep
    clear hK K hHeld31
    (try simp only [Act.put, List.getElem_toArray, List.getElem_cons_succ, List.getElem_cons_zero, List.setIfInBounds_toArray, List.set_cons_zero, List.set_cons_succ])
    refine wpAnyH_take (i := 13) (v := ?_) rfl (by kernel_rfl) (by kernel_rfl) (by kernel_rfl) (fun _ _ _ h => h) (Or.inl ⟨by rfl, ?_⟩) (by assumption) ?_
    rotate_left
    · intro w hSw; (try dsimp only at hSw); first | (go_simp; done) | (go_simp; with_reducible rfl)
    (try simp only [Act.put, List.getElem_toArray, List.getElem_cons_succ, List.getElem_cons_zero, List.setIfInBounds_toArray, List.set_cons_zero, List.set_cons_succ])
    refine wpAnyH_ready (rs := [14]) (by kernel_rfl) (by simp) ?_
    refine AllReadyH.cons rfl (fun K hK => ?_) AllReadyH.nil
    go_simp
    refine hK.out _ _ ?_ (fun hHeld33 => ?_)
    · (try dsimp only); first | (with_reducible exact ⟨k0, k1, k2, k3, k4⟩) | go_keep
    clear hK K hHeld32
    (try simp only [Act.put, List.getElem_toArray, List.getElem_cons_succ, List.getElem_cons_zero, List.setIfInBounds_toArray, List.set_cons_zero, List.set_cons_succ])
    refine wpAnyH_take (i := 15) (v := ?_) rfl (by kernel_rfl) (by kernel_rfl) (by kernel_rfl) (fun _ _ _ h => h) (Or.inl ⟨by rfl, ?_⟩) (by assumption) ?_
    rotate_left
    · intro w hSw; (try dsimp only at hSw); first | (go_simp; done) | (go_simp; with_reducible rfl)
    (try simp only [Act.put, List.getElem_toArray, List.getElem_cons_succ, List.getElem_cons_zero, List.setIfInBounds_toArray, List.set_cons_zero, List.set_cons_succ])
    refine wpAnyH_take (i := 21) (v := ?_) rfl (by kernel_rfl) (by kernel_rfl) (by kernel_rfl) (fun _ _ _ h => h) (Or.inl ⟨by rfl, ?_⟩) (by assumption) ?_
    rotate_left
    · intro w hSw; (try dsimp only at hSw); first | (go_simp; done) | (go_simp; with_reducible rfl)
    (try simp only [Act.put, List.getElem_toArray, List.getElem_cons_succ, List.getElem_cons_zero, List.setIfInBounds_toArray, List.set_cons_zero, List.set_cons_succ])
    refine wpAnyH_take (i := 22) (v := ?_) rfl (by kernel_rfl) (by kernel_rfl) (by kernel_rfl) (fun _ _ _ h => h) (Or.inl ⟨by rfl, ?_⟩) (by assumption) ?_
    rotate_left
    · intro w hSw; (try dsimp only at hSw); first | (go_simp; done) | (go_simp; with_reducible rfl)
    (try simp only [Act.put, List.getElem_toArray, List.getElem_cons_succ, List.getElem_cons_zero, List.setIfInBounds_toArray, List.set_cons_zero, List.set_cons_succ])
    refine wpAnyH_done (by kernel_rfl) ?_ _
    go_wp2_with fail
    go_meet
    have hb1 := HBB.out
    have hb2 := fun o => hb1.alloc hb1.size o
    refine ⟨⟨_, rfl, by simp [HFD.out, HGD.out], ?_⟩, HIR.out.step ?_⟩
    · simp only [ByteArray.size_append]
      have h1 : (⟨#[32]⟩ : ByteArray).size = 1 := rfl
      omega
    · first | exact (hb2 _).alloc (hb2 _).size _ | exact hb2 _ | exact ((hb2 _).alloc (hb2 _).size _).drew | exact (hb2 _).drew
  case rest =>
    obtain ⟨hso, hic⟩ := hcut
    have hres2 := HRES.out
    obtain ⟨p1, hp1⟩ : ∃ p1, name.data.toList ++ ([32] ++ filt.data.toList) ++ flatS (fromWs src start) ++ flatS (ackWs ack) = p1 := ⟨_, rfl⟩
    obtain ⟨p2, hp2⟩ : ∃ p2, p1 ++ flatS (numWs waitE wait) = p2 := ⟨_, rfl⟩
    obtain ⟨p3, hp3⟩ : ∃ p3, p2 ++ flatS (backWs back) = p3 := ⟨_, rfl⟩
    obtain ⟨p4, hp4⟩ : ∃ p4, p3 ++ flatS (numWs mostE most) = p4 := ⟨_, rfl⟩
    obtain ⟨p5, hp5⟩ : ∃ p5, p4 ++ flatS (numWs pendE pend) = p5 := ⟨_, rfl⟩
    obtain ⟨p6, hp6⟩ : ∃ p6, p5 ++ flatS (pushWs push) = p6 := ⟨_, rfl⟩
    have hr6 : res.data.toList = p6 := by rw [hres2, ← hp6, ← hp5, ← hp4, ← hp3, ← hp2, ← hp1]
    rw [hp1] at hso
    have HR6 := Lib.hid hr6; have HP2 := Lib.hid hp2; have HP3 := Lib.hid hp3; have HP4 := Lib.hid hp4; have HP5 := Lib.hid hp5; have HP6 := Lib.hid hp6
    have HSO := Lib.hid hso; have HIC := Lib.hid hic
    have hm0 : numWs mostE most = if most = 0 then [] else [mostE ++ Lib.itoa most] := by
      unfold numWs
      by_cases e : most = 0
      · rw [if_pos e, if_neg (by omega)]
      · rw [if_neg e, if_pos (by omega)]
    have hq0 : numWs pendE pend = if pend = 0 then [] else [pendE ++ Lib.itoa pend] := by
      unfold numWs
      by_cases e : pend = 0
      · rw [if_pos e, if_neg (by omega)]
      · rw [if_neg e, if_pos (by omega)]
    have hn5 : n ≤ 5 := by rw [← HN.out]; exact hf3'
    have HM0 := Lib.hid hm0; have HQ0 := Lib.hid hq0
    clear hso hic hres2 hp1 hp2 hp3 hp4 hp5 hp6 hr6 hm0 hq0 HRES y0 y1 y2 y3 y4 y5 y6 y7 y8 y9 yf
    obtain ⟨y0, y1, y2, y3, y4, y5, y6, y7, y8, y9, yf⟩ := ten (HIC.out.blk HB1.out)
    go_upto_if 29 with fail
    go_cut [3] from 29 to 35 (fun s3 wx => TextSo p2 320 s3 ∧ Inv w1 wx)
    case first =>
      obtain ⟨o, rfl, ho, hos⟩ := HSO.out
      by_cases hp : ack = 0
      · have heq : p1 = p2 := by rw [← HP2.out, HWS.out, if_pos hp]; simp [flatS]
        have HEQ := Lib.hid heq
        have HO := Lib.hid ho
        have dp : (ack != 0) = false := by rw [hp]; rfl
        clear heq ho hp HSO
        go_wp2_with fail
        go_meet
        exact ⟨⟨_, rfl, by rw [← HEQ.out]; exact HO.out, by omega⟩, HIC.out⟩
      · have heq : p1 ++ ([32] ++ (waitE ++ Lib.itoa wait)) = p2 := by rw [← HP2.out, HWS.out, if_neg hp]; simp [flatS]
        have HEQ := Lib.hid heq
        have HO := Lib.hid ho
        have dp : (ack != 0) = true := by simpa using hp
        have HIT := Lib.hid (itoa_any wait (by omega) (by omega) wc (HT.out.inv (HI1.out.thru HIC.out)))
        have hit := itoa_tok wait (by omega) (by omega)
        obtain ⟨XX, hXX⟩ : ∃ XX : ByteArray, XX = ⟨(Lib.itoa wait).toArray⟩ := ⟨_, rfl⟩
        have hxd : XX.data.toList = Lib.itoa wait := by rw [hXX]
        rw [← hXX] at HIT hit
        have HXD := Lib.hid hxd
        have q1 : ¬ 9223372036854775807 < 6 + XX.size := by omega
        have q2 : ¬ 9223372036854775807 < o.size + (6 + XX.size) := by omega
        clear hxd hXX heq ho HSO
        go_wp2_with fail
        refine HIT.out.mono ?_
        rintro e w' ⟨rfl, hb'⟩
        have HF := Lib.hid (HIC.out.step hb')
        clear hb'
        go_wp2_with fail
        go_meet
        refine ⟨⟨_, rfl, by rw [← HEQ.out]; simp [HO.out, HXD.out, waitE], ?_⟩, HF.out⟩
        simp only [ByteArray.size_append]
        have h1 : (⟨#[32, 119, 97, 105, 116, 61]⟩ : ByteArray).size = 6 := rfl
        omega
    case rest =>
    obtain ⟨hso, hic⟩ := hcut
    have HSO := Lib.hid hso; have HIC := Lib.hid hic
    clear hso hic y0 y1 y2 y3 y4 y5 y6 y7 y8 y9 yf
    obtain ⟨y0, y1, y2, y3, y4, y5, y6, y7, y8, y9, yf⟩ := ten (HIC.out.blk HB1.out)
    have HLOOP := Lib.hid (show TextSo (p2 ++ backSo back 0) (320 + 20 * 0) _ from by have := HSO.out; rw [show backSo back 0 = [] from rfl, List.append_nil]; exact this)
    go_wp2_with fail
    go_loopw [3, 4] (fun s3 i wr => ∃ k : Nat, k ≤ n ∧ i = .int .i64 k ∧ TextSo (p2 ++ backSo back k) (320 + 20 * k) s3 ∧ Hid (Inv w1 wr)) (fun _ i _ => n - (intOf i).toNat)
    case atStart => exact ⟨0, Nat.zero_le _, rfl, HLOOP.out, HIC⟩
    case round =>
      obtain ⟨k, hk, rfl, ⟨o, rfl, ho, hos⟩, HW⟩ := hrel
      clear y0 y1 y2 y3 y4 y5 y6 y7 y8 y9 yf
      obtain ⟨y0, y1, y2, y3, y4, y5, y6, y7, y8, y9, yf⟩ := ten (HW.out.blk HB1.out)
      have HO := Lib.hid ho
      clear ho HSO HLOOP HIC
      by_cases hlt : k < n
      · have hltz : (k : Int) < n := by omega
        obtain ⟨ao', cap', e', _, hat⟩ := HBK.out.below HW.out.2
        simp only [Value.slice.injEq] at e'
        obtain ⟨rfl, -, rfl⟩ := e'
        obtain ⟨g, off, rfl, hst⟩ := hat (by intro e; have := HN.out; rw [e] at this; simp at this; omega)
        have c0 := hst k (by rw [HN.out]; exact hlt)
        have hx := HG7.out k (by rw [HN.out]; exact hlt)
        have hone := fun (h : k = 0) => (by subst h; show [32] ++ (backE ++ listT (back.take 1)) = _; rw [listT_one (by rw [HN.out]; omega)] : backSo back (k + 1) = [32] ++ (backE ++ Lib.itoa (back.getD k 0)))
        have hmore := fun (h : 0 < k) => (by unfold backSo; rw [if_neg (by omega), if_neg (by omega), listT_take (by rw [HN.out]; exact hlt) h]; simp : backSo back (k + 1) = backSo back k ++ ([44] ++ Lib.itoa (back.getD k 0)))
        have HONE := Lib.hid hone; have HMORE := Lib.hid hmore
        have HIT := Lib.hid (itoa_any (back.getD k 0) (by omega) (by omega) wr (HT.out.inv (HI1.out.thru HW.out)))
        have hit := itoa_tok (back.getD k 0) (by omega) (by omega)
        clear hst hat hone hmore hx
        generalize back.getD k 0 = z at *
        obtain ⟨XX, hXX⟩ : ∃ XX : ByteArray, XX = ⟨(Lib.itoa z).toArray⟩ := ⟨_, rfl⟩
        have hxd : XX.data.toList = Lib.itoa z := by rw [hXX]
        rw [← hXX] at HIT hit
        have HXD := Lib.hid hxd
        clear hxd hXX
        by_cases hk0 : k = 0
        · have d : ((k : Int) == 0) = true := by simp [hk0]
          have HK0 := Lib.hid hk0
          have q1 : ¬ 9223372036854775807 < o.size + 9 := by omega
          have q2 : ¬ 9223372036854775807 < o.size + 9 + XX.size := by omega
          clear hk0
          go_wp2_with fail
          refine HIT.out.mono ?_
          rintro e w' ⟨rfl, hb'⟩
          have HF := Lib.hid (HW.out.step hb')
          clear hb' c0
          go_wp2_with fail
          refine ⟨⟨k + 1, by omega, by go_num, ⟨_, rfl, ?_, ?_⟩, HF⟩, by simp [intOf]; omega⟩
          · have hk0 := HK0.out
            have h1 := HO.out
            rw [HONE.out hk0]
            rw [show backSo back k = [] from by rw [hk0]; rfl, List.append_nil] at h1
            simp [h1, HXD.out, backE]
          · simp only [ByteArray.size_append]
            have h1 : (⟨#[32, 98, 97, 99, 107, 111, 102, 102, 61]⟩ : ByteArray).size = 9 := rfl
            omega
        · have d : ((k : Int) == 0) = false := by simp [hk0]
          have HK0 := Lib.hid (show 0 < k by omega)
          have q1 : ¬ 9223372036854775807 < o.size + 1 := by omega
          have q2 : ¬ 9223372036854775807 < o.size + 1 + XX.size := by omega
          clear hk0
          go_wp2_with fail
          refine HIT.out.mono ?_
          rintro e w' ⟨rfl, hb'⟩
          have HF := Lib.hid (HW.out.step hb')
          clear hb' c0
          go_wp2_with fail
          refine ⟨⟨k + 1, by omega, by go_num, ⟨_, rfl, ?_, ?_⟩, HF⟩, by simp [intOf]; omega⟩
          · rw [HMORE.out HK0.out]
            simp [HO.out, HXD.out]
          · simp only [ByteArray.size_append]
            have h1 : (⟨#[44]⟩ : ByteArray).size = 1 := rfl
            omega
      · have hltz : ¬ (k : Int) < n := by omega
        obtain rfl : k = n := by omega
        have hp3' : p2 ++ backSo back k = p3 := by
          rw [← HP3.out]
          unfold backSo backWs
          rw [HN.out]
          by_cases hk0 : k = 0
          · rw [if_pos hk0, if_neg (by omega)]; rfl
          · rw [if_neg hk0, if_pos (by omega), List.take_of_length_le (by rw [HN.out]; exact Nat.le_refl _)]; simp [flatS]
        have hso : TextSo p3 420 (.string o) := ⟨o, rfl, by rw [← hp3']; exact HO.out, by omega⟩
        have HSO := Lib.hid hso; have HIC := HW
        clear hp3' hso HO hos HP3 HN HG7 HBK
        go_upto_if 59 with fail
        go_cut [3] from 59 to 65 (fun s3 wx => TextSo p4 440 s3 ∧ Inv w1 wx)
        case first =>
          obtain ⟨o', hoo, ho, hos⟩ := HSO.out
          obtain rfl : o = o' := by simpa using hoo
          clear hoo
          by_cases hp : most = 0
          · have heq : p3 = p4 := by rw [← HP4.out, HM0.out, if_pos hp]; simp [flatS]
            have HEQ := Lib.hid heq
            have HO := Lib.hid ho
            have dp : (most != 0) = false := by rw [hp]; rfl
            clear heq ho hp HSO
            go_wp2_with fail
            go_meet
            exact ⟨⟨_, rfl, by rw [← HEQ.out]; exact HO.out, by omega⟩, HIC.out⟩
          · have heq : p3 ++ ([32] ++ (mostE ++ Lib.itoa most)) = p4 := by rw [← HP4.out, HM0.out, if_neg hp]; simp [flatS]
            have HEQ := Lib.hid heq
            have HO := Lib.hid ho
            have dp : (most != 0) = true := by simpa using hp
            have HIT := Lib.hid (itoa_any most (by omega) (by omega) wr (HT.out.inv (HI1.out.thru HIC.out)))
            have hit := itoa_tok most (by omega) (by omega)
            obtain ⟨XX, hXX⟩ : ∃ XX : ByteArray, XX = ⟨(Lib.itoa most).toArray⟩ := ⟨_, rfl⟩
            have hxd : XX.data.toList = Lib.itoa most := by rw [hXX]
            rw [← hXX] at HIT hit
            have HXD := Lib.hid hxd
            have q1 : ¬ 9223372036854775807 < 6 + XX.size := by omega
            have q2 : ¬ 9223372036854775807 < o.size + (6 + XX.size) := by omega
            clear hxd hXX heq ho HSO
            go_wp2_with fail
            refine HIT.out.mono ?_
            rintro e w' ⟨rfl, hb'⟩
            have HF := Lib.hid (HIC.out.step hb')
            clear hb'
            go_wp2_with fail
            go_meet
            refine ⟨⟨_, rfl, by rw [← HEQ.out]; simp [HO.out, HXD.out, mostE], ?_⟩, HF.out⟩
            simp only [ByteArray.size_append]
            have h1 : (⟨#[32, 109, 111, 115, 116, 61]⟩ : ByteArray).size = 6 := rfl
            omega
        case rest =>
        obtain ⟨hso, hic⟩ := hcut
        have HSO := Lib.hid hso; have HIC := Lib.hid hic
        clear hso hic y0 y1 y2 y3 y4 y5 y6 y7 y8 y9 yf
        obtain ⟨y0, y1, y2, y3, y4, y5, y6, y7, y8, y9, yf⟩ := ten (HIC.out.blk HB1.out)
        go_upto_if 68 with fail
        go_cut [3] from 68 to 74 (fun s3 wx => TextSo p5 460 s3 ∧ Inv w1 wx)
        case first =>
          obtain ⟨o, rfl, ho, hos⟩ := HSO.out
          by_cases hp : pend = 0
          · have heq : p4 = p5 := by rw [← HP5.out, HQ0.out, if_pos hp]; simp [flatS]
            have HEQ := Lib.hid heq
            have HO := Lib.hid ho
            have dp : (pend != 0) = false := by rw [hp]; rfl
            clear heq ho hp HSO
            go_wp2_with fail
            go_meet
            exact ⟨⟨_, rfl, by rw [← HEQ.out]; exact HO.out, by omega⟩, HIC.out⟩
          · have heq : p4 ++ ([32] ++ (pendE ++ Lib.itoa pend)) = p5 := by rw [← HP5.out, HQ0.out, if_neg hp]; simp [flatS]
            have HEQ := Lib.hid heq
            have HO := Lib.hid ho
            have dp : (pend != 0) = true := by simpa using hp
            have HIT := Lib.hid (itoa_any pend (by omega) (by omega) wc (HT.out.inv (HI1.out.thru HIC.out)))
            have hit := itoa_tok pend (by omega) (by omega)
            obtain ⟨XX, hXX⟩ : ∃ XX : ByteArray, XX = ⟨(Lib.itoa pend).toArray⟩ := ⟨_, rfl⟩
            have hxd : XX.data.toList = Lib.itoa pend := by rw [hXX]
            rw [← hXX] at HIT hit
            have HXD := Lib.hid hxd
            have q1 : ¬ 9223372036854775807 < 9 + XX.size := by omega
            have q2 : ¬ 9223372036854775807 < o.size + (9 + XX.size) := by omega
            clear hxd hXX heq ho HSO
            go_wp2_with fail
            refine HIT.out.mono ?_
            rintro e w' ⟨rfl, hb'⟩
            have HF := Lib.hid (HIC.out.step hb')
            clear hb'
            go_wp2_with fail
            go_meet
            refine ⟨⟨_, rfl, by rw [← HEQ.out]; simp [HO.out, HXD.out, pendE], ?_⟩, HF.out⟩
            simp only [ByteArray.size_append]
            have h1 : (⟨#[32, 112, 101, 110, 100, 105, 110, 103, 61]⟩ : ByteArray).size = 9 := rfl
            omega
        case rest =>
        obtain ⟨hso, hic⟩ := hcut
        have HSO := Lib.hid hso; have HIC := Lib.hid hic
        clear hso hic y0 y1 y2 y3 y4 y5 y6 y7 y8 y9 yf
        obtain ⟨y0, y1, y2, y3, y4, y5, y6, y7, y8, y9, yf⟩ := ten (HIC.out.blk HB1.out)
        obtain ⟨o, rfl, ho, hos⟩ := HSO.out
        have HO := Lib.hid ho
        clear ho HSO
        cases push with
        | false =>
          have hfin : res = o := by
            apply ByteArray.ext; apply Array.ext'
            rw [HR6.out, ← HP6.out, HO.out]; simp [pushWs, flatS]
          have HFIN := Lib.hid hfin
          clear hfin
          go_wp2
          go_ret
          exact ⟨by rw [HFIN.out]; rfl, HI1.out.thru HIC.out⟩
        | true =>
          have hfin : res = o ++ ⟨#[32, 112, 117, 115, 104]⟩ := by
            apply ByteArray.ext; apply Array.ext'
            rw [HR6.out, ← HP6.out, ByteArray.data_append, Array.toList_append, HO.out]; simp [pushWs, flatS]
          have HFIN := Lib.hid hfin
          have q1 : ¬ 9223372036854775807 < o.size + 5 := by omega
          clear hfin
          go_wp2
          go_ret
          exact ⟨by rw [HFIN.out]; rfl, HI1.out.thru HIC.out⟩
end Go.Proofs.YtglgbidcmkncgaaDoor.Subj
