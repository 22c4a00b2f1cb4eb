/- The law StoreSeeks, walked: it returns true. -/
import Derived.Test.YtpmffneohcbhbaaDoorPurges
import Derived.Test.YtpmffneohcbhbaaDoorStoNext
namespace Go.Proofs.YtpmffneohcbhbaaDoor.Sto
open Go.RowKit Heap
open Subj (Tok ML pieces takes StrsAt isB matchR)
open Rec (Rc recErr far)
open Idx (Ents ptrV mem_take_get mem_drop_get)

def atQ (G : List Rc) (j : Nat) : Int := if j = 0 then 0 else ((G[j - 1]?).map (·.seq)).getD 0 + 1
def lastG (G : List Rc) (j : Nat) : Rc := if j = 0 then Rc.zero else (G[j - 1]?).getD Rc.zero
def seqsV (G : List Rc) : List Value := G.map fun r => .int .i64 r.seq

theorem atQ_step {G : List Rc} {j : Nat} {p : Rc} (h : G[j]? = some p) : atQ G (j + 1) = p.seq + 1 ∧ lastG G (j + 1) = p := by
  unfold atQ lastG
  rw [if_neg (by omega), if_neg (by omega), Nat.add_sub_cancel, h]
  exact ⟨rfl, rfl⟩

theorem atQ_range {G : List Rc} (h : ∀ r ∈ G, 0 ≤ r.seq ∧ r.seq ≤ 1099511627776) (j : Nat) : 0 ≤ atQ G j ∧ atQ G j ≤ 4611686018427387904 := by
  unfold atQ
  split
  · omega
  · cases hp : G[j - 1]? with
    | none => simp
    | some p =>
      have := h p (List.mem_of_getElem? hp)
      show 0 ≤ p.seq + 1 ∧ p.seq + 1 ≤ _
      omega

theorem next_found {L G : List Rc} {f : List UInt8} (hr : L.Pairwise fun a b => a.seq < b.seq) (hG : L.filter (tk f) = G) (h0 : ∀ r ∈ L, 0 ≤ r.seq) {i j : Nat} (hj : j ≤ G.length)
    (h1 : ∀ r ∈ L.take i, r.seq < atQ G j) (h2 : ∀ r ∈ L.drop i, atQ G j ≤ r.seq) : (L.drop i).find? (tk f) = G[j]? := by
  have hrG : G.Pairwise fun a b => a.seq < b.seq := by rw [← hG]; exact hr.sublist List.filter_sublist
  have hs : (∀ x ∈ G.take j, x.seq < atQ G j) ∧ ∀ x ∈ G.drop j, atQ G j ≤ x.seq := by
    by_cases hj0 : j = 0
    · subst hj0
      refine ⟨fun x hx => by simp at hx, fun x hx => ?_⟩
      have hx' : x ∈ G := by simpa using hx
      rw [← hG] at hx'
      exact h0 x (List.mem_filter.1 hx').1
    · obtain ⟨p, hp⟩ : ∃ p, G[j - 1]? = some p := ⟨_, List.getElem?_eq_getElem (by omega)⟩
      have ha : atQ G j = p.seq + 1 := by
        have := (atQ_step hp).1
        rw [show j - 1 + 1 = j by omega] at this; exact this
      rw [ha]
      obtain ⟨hpl, ep⟩ := List.getElem?_eq_some_iff.1 hp
      have hpw := List.pairwise_iff_getElem.1 hrG
      refine ⟨fun x hx => ?_, fun x hx => ?_⟩
      · obtain ⟨a, ha1, e⟩ := mem_take_get hx
        obtain ⟨hal, ea⟩ := List.getElem?_eq_some_iff.1 e
        by_cases e2 : a = j - 1
        · subst e2; rw [hp] at e; cases e; omega
        · have := hpw a (j - 1) hal hpl (by omega)
          rw [ea, ep] at this; omega
      · obtain ⟨a, ha1, e⟩ := mem_drop_get hx
        obtain ⟨hal, ea⟩ := List.getElem?_eq_some_iff.1 e
        have := hpw (j - 1) a hpl hal (by omega)
        rw [ea, ep] at this; omega
  generalize atQ G j = q at h1 h2 hs
  have e1 : G = (L.take i).filter (tk f) ++ (L.drop i).filter (tk f) := by rw [← List.filter_append, List.take_append_drop, hG]
  have f1 : G.filter (fun x => decide (x.seq < q)) = G.take j := by
    conv => lhs; rw [← List.take_append_drop j G]
    rw [List.filter_append, List.filter_eq_self.2 (fun x hx => by simpa using hs.1 x hx), List.filter_eq_nil_iff.2 (fun x hx => by have := hs.2 x hx; simp; omega), List.append_nil]
  have g1 : ((L.take i).filter (tk f)).filter (fun x => decide (x.seq < q)) = (L.take i).filter (tk f) := List.filter_eq_self.2 fun x hx => by simpa using h1 x (List.mem_filter.1 hx).1
  have g2 : ((L.drop i).filter (tk f)).filter (fun x => decide (x.seq < q)) = [] := List.filter_eq_nil_iff.2 fun x hx => by have := h2 x (List.mem_filter.1 hx).1; simp; omega
  have f2 : G.filter (fun x => decide (x.seq < q)) = (L.take i).filter (tk f) := by
    conv => lhs; rw [e1]
    rw [List.filter_append, g1, g2, List.append_nil]
  have e2 : (L.drop i).filter (tk f) = G.drop j := by
    have h3 : (L.take i).filter (tk f) ++ (L.drop i).filter (tk f) = (L.take i).filter (tk f) ++ G.drop j := by
      rw [← e1, ← f2, f1, List.take_append_drop]
    exact List.append_cancel_left h3
  rw [← List.head?_filter, e2, List.head?_drop]

/-- What the second loop gathers. -/
def matchP (f : List UInt8) (x : Rc) : Bool := isB (matchR f x.subj)

theorem match_all {L : List Rc} {f : List UInt8} (hg : ∀ r ∈ L, recErr r = 0 ∧ r.kind = 1) : L.filter (matchP f) = if Subj.err true f = 0 then L.filter (tk f) else [] := by
  split
  · rename_i he
    refine List.filter_congr fun x hx => ?_
    unfold matchP tk
    exact isB_eq he (good_parts (hg x hx).1 (hg x hx).2).1
  · rename_i he
    rw [List.filter_eq_nil_iff]
    intro x _
    unfold matchP isB matchR
    rw [if_pos he]
    simp

theorem last_found {L : List Rc} {f : List UInt8} : L.reverse.find? (tk f) = (L.filter (tk f)).getLast? := by
  rw [← List.head?_filter, List.filter_reverse, List.head?_reverse]

theorem lastG_all (G : List Rc) : G.getLast? = if G.length = 0 then none else some (lastG G G.length) := by
  split
  · rename_i h
    rw [List.eq_nil_of_length_eq_zero h]; rfl
  · rename_i h
    unfold lastG
    rw [if_neg h, List.getLast?_eq_getElem?]
    cases hp : G[G.length - 1]? with
    | none => have := List.getElem?_eq_none_iff.1 hp; omega
    | some p => rfl

theorem seqsV_len (G : List Rc) : (seqsV G).length = G.length := by simp [seqsV]

/-- Numbers that were gathered. -/
def OutI (w wr : World) (o : Value) (K : List Rc) : Prop := Row wr 3 1 o K.length (seqsV K) ∧ ∀ k, own o k → w.heap.size ≤ k

theorem info_int : (Tryd.prog.info? 3).map (fun i => (i.zero, i.size, i.bytes)) = some (some (Value.int .i64 0), 1, 8) := by kernel_rfl

theorem equal_ints {w : World} {v1 v2 : Value} {K : List Rc} (h1 : Row w 3 1 v1 K.length (seqsV K)) (h2 : Row w 3 1 v2 K.length (seqsV K)) (hl : K.length ≤ 1000) :
    Calls Tryd.prog 38 #[v1, v2] w fun e w' => e = .returned (.bool true) ∧ ∃ q, w' = w.drewN q := by
  by_cases hn : K = []
  · subst hn
    obtain ⟨a1, c1, rfl⟩ := h1.slice
    obtain ⟨a2, c2, rfl⟩ := h2.slice
    exact (Tryd.slices_Equal_int_empty a1 a2 c1 0 c2 w (by omega)).mono fun e w' ⟨a, b⟩ => ⟨by rw [a]; rfl, 0, by rw [b]; rfl⟩
  · have hpos : 0 < K.length := List.length_pos_iff.2 hn
    have get : ∀ {v : Value}, Row w 3 1 v K.length (seqsV K) → ∃ g off cap, v = .slice (some ⟨g, off, none⟩) K.length cap ∧ ∀ j, j < (K.map (·.seq)).length → w.cell? ⟨g, off + j, none⟩ = some (.int .i64 ((K.map (·.seq)).getD j 0)) := fun {v} h => by
      rcases h.2 with ⟨_, h0⟩ | ⟨g, off, cap, cur, rfl, _⟩
      · omega
      · refine ⟨g, off, cap, rfl, fun j hj => ?_⟩
        rw [List.length_map] at hj
        rw [(h.cell j (by omega)).1]
        simp [seqsV, List.getD, hj]
    obtain ⟨g1, o1, c1, rfl, x1⟩ := get h1
    obtain ⟨g2, o2, c2, rfl, x2⟩ := get h2
    exact (Tryd.slices_Equal_int g1 o1 K.length c1 g2 o2 K.length c2 (K.map (·.seq)) (K.map (·.seq)) w (by simp) (by simp) (by omega) (by omega) x1 x2).mono fun e w' ⟨a, q, b⟩ => ⟨by rw [a]; simp, q, b⟩

theorem run2 : (runS [noteR 4, noteR 7]).1 = [noteR 4, noteR 7] := by rfl

theorem first_seek {i : Nat} (h1 : ∀ r ∈ (runS [noteR 4, noteR 7]).1.take i, r.seq < 5) (h2 : ∀ r ∈ (runS [noteR 4, noteR 7]).1.drop i, 5 ≤ r.seq) :
    seekR (Subj.err true [97, 46, 42]) (((runS [noteR 4, noteR 7]).1.drop i).find? (tk [97, 46, 42])) = (noteR 7, 0) := by
  rw [run2] at h1 h2 ⊢
  match i, h1, h2 with
  | 0, _, h2 => exact absurd (h2 (noteR 4) (by simp)) (by show ¬ (5 : Int) ≤ 4; decide)
  | 1, _, _ => rfl
  | i + 2, h1, _ => exact absurd (h1 (noteR 7) (by simp)) (by show ¬ (7 : Int) < 5; decide)

section
variable {w : World}

set_option maxHeartbeats 8000000 in
set_option maxRecDepth 100000 in
theorem storeSeeks_walk (hm : ML w) {v : Value} {l : List Rc} (hl : RecsAt w v l) (hf : ∀ r ∈ l, Fits r) (f : ByteArray) (hfz : f.size ≤ 1048576) :
    Calls Tryd.prog 7 #[v, .string f] w fun e w' => e = .returned (.bool true) ∧ Below w.heap.size w w' := by
  obtain ⟨n, hnL⟩ : ∃ n, l.length = n := ⟨_, rfl⟩
  have HN := Lib.hid hnL
  obtain ⟨ao, cap, rfl, ha⟩ := hl
  have HL := Lib.hid (show RecsAt w (.slice ao l.length cap) l from ⟨ao, cap, rfl, ha⟩); have HF := Lib.hid hf; have HML := Lib.hid hm
  rw [hnL] at HL ⊢
  clear ha hf hm hnL
  go_enter Tryd.func7, Tryd.ntmps7
  go_wp2_with fail
  refine (note_any 4).mono ?_
  rintro e w1 ⟨rfl, hb1⟩
  have HB1 := Lib.hid hb1
  clear hb1
  unfold recV
  go_wp2_with fail
  refine (note_any 7).mono ?_
  rintro e w2 ⟨rfl, hb2⟩
  have HB2 := Lib.hid (HB1.out.trans (hb2.mono HB1.out.size))
  clear hb2 HB1
  unfold recV
  go_wp2_with fail
  refine (filled_any (W := w) (w := w2.alloc (.cells (recsV [noteR 4, noteR 7]).toArray 56)) (HB2.out.alloc HB2.out.size _) HML.out (recs_new w2 [noteR 4, noteR 7]) (by decide) (fun r hr => by
    simp only [List.mem_cons, List.not_mem_nil, or_false] at hr
    rcases hr with rfl | rfl
    · exact fits_note 4
    · exact fits_note 7)).mono ?_
  rintro e w3 ⟨D0, F0, rfl, hS0, hF0, hb3⟩
  have HB3 := Lib.hid ((HB2.out.alloc HB2.out.size _).trans (hb3.mono (by have := HB2.out.size; simp; omega)))
  have HNX := Lib.hid (next_any (q := 5) hS0 HML.out ⟨#[97, 46, 42]⟩ (by decide) (by omega))
  clear hS0 hF0 hb3
  go_wp2_with fail
  refine HNX.out.mono ?_
  rintro e w4 ⟨i, h1, h2, rfl, hb4⟩
  have hfs := first_seek h1 h2
  rw [hfs]
  have HB4 := Lib.hid (HB3.out.trans (hb4.mono HB3.out.size))
  clear h1 h2 hb4 hfs HNX HB3
  obtain ⟨w5, hw5⟩ : ∃ w5, w5 = w4.alloc (.cells #[.int .i64 1, .int .i64 7, .int .i64 0, .string ⟨#[97, 46, 98]⟩, .string ⟨#[]⟩, .string ⟨#[120]⟩] 56) := ⟨_, rfl⟩
  have hb5 : Below w4.heap.size w4 w5 := by rw [hw5]; exact (Below.refl _ _).alloc (Nat.le_refl _) _
  have hea : w5.heap[w4.heap.size]? = some (.cells #[.int .i64 1, .int .i64 7, .int .i64 0, .string ⟨#[97, 46, 98]⟩, .string ⟨#[]⟩, .string ⟨#[120]⟩] 56 (0, 0)) := by rw [hw5]; exact heap_alloc_new w4 _
  obtain ⟨bx, hbx⟩ : ∃ bx, w4.heap.size = bx := ⟨_, rfl⟩
  rw [hbx] at hea
  have HBX := Lib.hid hbx; have HB5 := Lib.hid (HB4.out.trans (hb5.mono HB4.out.size))
  obtain ⟨q0, q1, q2, q3, q4, q5⟩ := sixC hea
  have hrvn : recV (noteR 7) = .agg #[.int .i64 1, .int .i64 7, .int .i64 0, .string ⟨#[97, 46, 98]⟩, .string ⟨#[]⟩, .string ⟨#[120]⟩] := rfl
  simp only [hrvn]
  clear hb5 hea hbx HB4 hrvn
  go_upto_region 2 with fail
  rw [← hw5, HBX.out]
  clear hw5
  by_cases h250 : 250 < n
  · have h250z : (250 : Int) < n := by omega
    go_wp2_with fail
    go_ret
    exact ⟨rfl, HB5.out⟩
  have h250z : ¬ (250 : Int) < n := by omega
  go_wp2_with fail
  have hfil := filled_any (W := w) HB5.out HML.out (by rw [← HN.out] at HL; exact HL.out.below HB5.out (Nat.le_refl _)) (by rw [HN.out]; omega) HF.out
  rw [HN.out] at hfil
  refine hfil.mono ?_
  clear hfil q0 q1 q2 q3 q4 q5
  rintro e w6 ⟨D, F, rfl, hS6, hF6, hb6⟩
  rw [HN.out] at hS6
  obtain ⟨L, hL⟩ : ∃ L, (runS l).1 = L := ⟨_, rfl⟩
  obtain ⟨last, hlast⟩ : ∃ last, (runS l).2 = last := ⟨_, rfl⟩
  rw [hL, hlast] at hS6
  have HB6 := Lib.hid (HB5.out.trans (hb6.mono HB5.out.size))
  obtain ⟨I, hRI⟩ := hS6.right
  have HRI := Lib.hid hRI
  obtain ⟨G, hG⟩ : ∃ G, L.filter (tk f.data.toList) = G := ⟨_, rfl⟩
  have hg200 : G.length ≤ 200 := by rw [← hG]; exact Nat.le_trans (List.length_filter_le _ _) hRI.few
  have hgs : ∀ r ∈ G, 0 ≤ r.seq ∧ r.seq ≤ 1099511627776 := fun r hr => by
    rw [← hG] at hr
    exact hRI.seqs r (List.mem_filter.1 hr).1
  have HG := Lib.hid hG; have HGS := Lib.hid hgs
  obtain ⟨er, her⟩ : ∃ er, Subj.err true f.data.toList = er := ⟨_, rfl⟩
  have HER := Lib.hid her
  obtain ⟨w7, hw7⟩ : ∃ w7, w7 = w6.alloc (.cells #[.int .i64 0, .int .i64 0, .int .i64 0, .string ⟨#[]⟩, .string ⟨#[]⟩, .string ⟨#[]⟩] 56) := ⟨_, rfl⟩
  have hb7 : Below w6.heap.size w6 w7 := by rw [hw7]; exact (Below.refl _ _).alloc (Nat.le_refl _) _
  have hlb : w7.heap[w6.heap.size]? = some (.cells #[.int .i64 0, .int .i64 0, .int .i64 0, .string ⟨#[]⟩, .string ⟨#[]⟩, .string ⟨#[]⟩] 56 (0, 0)) := by rw [hw7]; exact heap_alloc_new w6 _
  obtain ⟨lb, hlbe⟩ : ∃ lb, w6.heap.size = lb := ⟨_, rfl⟩
  rw [hlbe] at hlb
  have HS6 := Lib.hid hS6; have HLE := Lib.hid hlbe; have HB7 := Lib.hid hb7
  have hW7 := Lib.hid (show w7.heap.size = w6.heap.size + 1 by rw [hw7]; simp)
  have HLB := Lib.hid (show w7.heap[lb]? = some (.cells (recC (lastG G 0)).toArray 56 (0, 0)) from hlb)
  clear hS6 hF6 hb6 hL hlast hRI hG hgs her hb7 hlb hlbe
  go_upto_region 9 with fail
  rw [← hw7, HLE.out]
  clear hw7
  go_wp2_with fail
  obtain ⟨i0, hi, hz0, hz1, hz2⟩ := info_parts info_int
  go_loopw [8, 11] (fun gv at_ wr => ∃ j : Nat, j ≤ G.length ∧ (er ≠ 0 → j = 0) ∧ at_ = .int .i64 (atQ G j) ∧ Hid (OutI w7 wr gv (G.take j)) ∧ Hid (Below w6.heap.size w6 wr) ∧ Hid (wr.heap[lb]? = some (.cells (recC (lastG G j)).toArray 56 (0, 0)))) (fun gv _ _ => G.length - (match gv with | .slice _ n _ => n | _ => 0))
  case atStart => exact ⟨0, Nat.zero_le _, fun _ => rfl, rfl, Lib.hid ⟨Row.nil _ _ _, fun k hk => by simp [own, Value.ownBlock] at hk⟩, HB7, HLB⟩
  case round =>
    obtain ⟨j, hj, hej, rfl, HO, HW, HLr⟩ := hrel
    have HEJ := Lib.hid hej
    have hkl : (G.take j).length = j := by rw [List.length_take]; omega
    obtain ⟨va, vc, hv⟩ := HO.out.1.slice
    rw [hkl] at hv
    subst hv
    have hj2 : (j : Int) ≤ 200 := by omega
    have hnx := next_any (HS6.out.next HW.out) HML.out f hfz (atQ G j) (atQ_range HGS.out j)
    rw [HER.out] at hnx
    obtain ⟨qa, hqa⟩ : ∃ qa, atQ G j = qa := ⟨_, rfl⟩
    have HQA := Lib.hid hqa
    rw [hqa] at hnx ⊢
    have HNX := Lib.hid hnx
    have HBr := Lib.hid (HB6.out.trans (HW.out.mono HB6.out.size))
    clear hnx hkl hqa hej
    by_cases hc : er = 0 ∧ j < G.length
    · obtain ⟨rfl, hjl⟩ := hc
      obtain ⟨p, hp⟩ : ∃ p, G[j]? = some p := ⟨_, List.getElem?_eq_getElem hjl⟩
      have hpr := HGS.out p (List.mem_of_getElem? hp)
      obtain ⟨s, h, d, hpp⟩ := parts p
      have hrv : recV p = .agg #[.int .i64 p.kind, .int .i64 p.seq, .int .i64 p.time, .string s, .string h, .string d] := by unfold recV; rw [hpp.s1, hpp.h1, hpp.d1]
      have hrc : recC p = [.int .i64 p.kind, .int .i64 p.seq, .int .i64 p.time, .string s, .string h, .string d] := by unfold recC; rw [hpp.s1, hpp.h1, hpp.d1]
      obtain ⟨z0, z1, z2, z3, z4, z5, hlc⟩ : ∃ z0 z1 z2 z3 z4 z5, (recC (lastG G j)).toArray = #[z0, z1, z2, z3, z4, z5] := ⟨_, _, _, _, _, _, rfl⟩
      obtain ⟨ast1, ast2⟩ := atQ_step hp
      have HAST1 := Lib.hid ast1; have HAST2 := Lib.hid ast2; have HP := Lib.hid hp; have HRV := Lib.hid hrv; have HRC := Lib.hid hrc
      have htk : G.take (j + 1) = G.take j ++ [p] := by rw [List.take_add_one, hp]; rfl
      have HTK := Lib.hid htk
      rw [hlc] at HLr
      obtain ⟨kd, hkd⟩ : ∃ kd, p.kind = kd := ⟨_, rfl⟩
      obtain ⟨sq, hsq⟩ : ∃ sq, p.seq = sq := ⟨_, rfl⟩
      obtain ⟨tm, htm⟩ : ∃ tm, p.time = tm := ⟨_, rfl⟩
      rw [hkd, hsq, htm] at HRV HRC
      rw [hsq] at hpr HAST1
      have HSQ := Lib.hid hsq
      clear hp hpp hrv hrc hlc ast1 ast2 htk hkd hsq htm
      go_wp2_with fail
      refine HNX.out.mono ?_
      rintro e w9 ⟨i, h1, h2, rfl, hb9⟩
      have hnf := next_found HRI.out.rise HG.out (fun r hr => (HRI.out.seqs r hr).1) hj (by rw [HQA.out]; exact h1) (by rw [HQA.out]; exact h2)
      rw [hnf, HP.out, show seekR 0 (some p) = (p, 0) from rfl]
      simp only [HRV.out]
      have HO9 := Lib.hid (show OutI w7 w9 (.slice va j vc) (G.take j) from ⟨HO.out.1.kept fun k _ hk => hb9.block k hk, HO.out.2⟩)
      have HW9 := Lib.hid (HW.out.trans (hb9.mono HW.out.size))
      have hlb9 := (hb9.block lb (heap_lt HLr.out)).trans HLr.out
      obtain ⟨wb, hwb⟩ : ∃ wb, wb = w9.alloc (.cells #[.int .i64 kd, .int .i64 sq, .int .i64 tm, .string s, .string h, .string d] 56) := ⟨_, rfl⟩
      have hba : Below w9.heap.size w9 wb := by rw [hwb]; exact (Below.refl _ _).alloc (Nat.le_refl _) _
      have heb : wb.heap[w9.heap.size]? = some (.cells #[.int .i64 kd, .int .i64 sq, .int .i64 tm, .string s, .string h, .string d] 56 (0, 0)) := by rw [hwb]; exact heap_alloc_new w9 _
      have hlbb := (hba.block lb (heap_lt hlb9)).trans hlb9
      have hgv : ∀ k, own (.slice va j vc) k → k < w9.heap.size := fun k hk => HO9.out.1.lt k hk
      have hlbn : ∀ k, own (.slice va j vc) k → k ≠ lb := fun k hk e => by
        have h3 := HO9.out.2 k hk
        have h4 := heap_lt HLB.out
        omega
      obtain ⟨bx, hbx⟩ : ∃ bx, w9.heap.size = bx := ⟨_, rfl⟩
      rw [hbx] at heb hgv
      have HOb := Lib.hid (show OutI w7 wb (.slice va j vc) (G.take j) from ⟨HO9.out.1.kept fun k _ hk => hba.block k hk, HO9.out.2⟩)
      have HWb := Lib.hid (HW9.out.trans (hba.mono HW9.out.size))
      obtain ⟨q0, q1, q2, q3, q4, q5⟩ := sixC heb
      obtain ⟨y0, y1, y2, y3, y4, y5⟩ := sixC hlbb
      have yf : ∀ j, wb.frozen? ⟨lb, j, none⟩ = false := fun j => frozen_of_row wb lb j _ _ hlbb
      have hbxl := heap_lt heb
      have hlbl := heap_lt hlbb
      have HEB := Lib.hid heb; have HLBB := Lib.hid hlbb; have HBX := Lib.hid hbx; have HGV := Lib.hid hgv; have HLBN := Lib.hid hlbn
      have hbl : ¬ bx = lb := by have := heap_lt hlb9; omega
      have hw1 : IntKind.i64.wrap (sq + 1) = sq + 1 := IntWalk.i64_in _ (by omega)
      clear h1 h2 hnf hb9 hlb9 hba heb hlbb hgv hlbn hbx HNX
      go_upto_region 13 with fail
      rw [← hwb, HBX.out]
      clear hwb
      have hjk : (G.take j).length = j := by rw [List.length_take]; omega
      have hrw := HOb.out.1
      rw [hjk] at hrw
      have hnews : ∀ k u, ([.int .i64 sq] : List Value)[k]? = some u → (wb.drew.alloc (.cells #[.int .i64 sq] 3)).cell? ((⟨wb.heap.size, 0, none⟩ : Addr).add k) = some u := fun k u hk => by
        rw [Addr.add_lit, cell_of_row _ wb.heap.size (0 + k) _ _ _ (heap_alloc_new wb.drew _), Nat.zero_add]
        rcases k with _ | k
        · simpa using hk
        · simp at hk
      have HRW := Lib.hid hrw; have HNW := Lib.hid hnews
      have HKEEP := Lib.hid (show ∀ w10, Heap.Touch (own (.slice va j vc)) (wb.drew.alloc (.cells #[.int .i64 sq] 3)) w10 → w10.heap[bx]? = some (.cells #[.int .i64 kd, .int .i64 sq, .int .i64 tm, .string s, .string h, .string d] 56 (0, 0)) ∧ w10.heap[lb]? = some (.cells #[z0, z1, z2, z3, z4, z5] 56 (0, 0)) from fun w10 ht => by
        have hs : (wb.drew.alloc (.cells #[.int .i64 sq] 3)).heap.size = wb.heap.size + 1 := by simp
        refine ⟨((ht.block bx (by rw [hs]; omega) (fun hk => by have := HGV.out bx hk; omega)).trans (Below.heap_alloc wb.drew _ _ hbxl)).trans HEB.out, ((ht.block lb (by rw [hs]; omega) (fun hk => HLBN.out lb hk rfl)).trans (Below.heap_alloc wb.drew _ _ hlbl)).trans HLBB.out⟩)
      have HEND := Lib.hid (show ∀ v2 w10, Row w10 3 1 v2 (j + 1) (seqsV (G.take j) ++ [.int .i64 sq]) → Heap.Touch (own (.slice va j vc)) (wb.drew.alloc (.cells #[.int .i64 sq] 3)) w10 → (∀ k, own v2 k → own (.slice va j vc) k ∨ (wb.drew.alloc (.cells #[.int .i64 sq] 3)).heap.size ≤ k) → w10.heap[lb]? = some (.cells #[z0, z1, z2, z3, z4, z5] 56 (0, 0)) →
          OutI w7 ((((((w10.setCell ⟨lb, 0, none⟩ (.int .i64 kd)).setCell ⟨lb, 1, none⟩ (.int .i64 sq)).setCell ⟨lb, 2, none⟩ (.int .i64 tm)).setCell ⟨lb, 3, none⟩ (.string s)).setCell ⟨lb, 4, none⟩ (.string h)).setCell ⟨lb, 5, none⟩ (.string d)) v2 (G.take (j + 1)) ∧
          Below w6.heap.size w6 ((((((w10.setCell ⟨lb, 0, none⟩ (.int .i64 kd)).setCell ⟨lb, 1, none⟩ (.int .i64 sq)).setCell ⟨lb, 2, none⟩ (.int .i64 tm)).setCell ⟨lb, 3, none⟩ (.string s)).setCell ⟨lb, 4, none⟩ (.string h)).setCell ⟨lb, 5, none⟩ (.string d)) ∧
          ((((((w10.setCell ⟨lb, 0, none⟩ (.int .i64 kd)).setCell ⟨lb, 1, none⟩ (.int .i64 sq)).setCell ⟨lb, 2, none⟩ (.int .i64 tm)).setCell ⟨lb, 3, none⟩ (.string s)).setCell ⟨lb, 4, none⟩ (.string h)).setCell ⟨lb, 5, none⟩ (.string d)).heap[lb]? = some (.cells (recC (lastG G (j + 1))).toArray 56 (0, 0)) from fun v2 w10 r t o k2 => by
        have hs : (wb.drew.alloc (.cells #[.int .i64 sq] 3)).heap.size = wb.heap.size + 1 := by simp
        have hlw : w7.heap.size ≤ wb.heap.size + 1 := by
          have := HOb.out.2
          have h4 := HWb.out.size
          have h5 := heap_lt HLB.out
          have h6 := hW7.out
          omega
        have hown : ∀ k, own v2 k → w7.heap.size ≤ k := fun k hk => by
          rcases o k hk with e | e
          · exact HOb.out.2 k e
          · rw [hs] at e; omega
        have hne : ∀ k, own v2 k → k ≠ lb := fun k hk e => by
          have h3 := hown k hk
          have h4 := heap_lt HLB.out
          omega
        have hb10 : Below w6.heap.size w6 w10 := (HWb.out.drew.alloc (by have := HWb.out.size; exact this) _).trans (t.below (by rw [hs]; have := HWb.out.size; omega) fun k hk => by have := HOb.out.2 k hk; have := HB7.out.size; omega)
        refine ⟨⟨?_, hown⟩, below6 hb10 (by have := HLE.out; omega) _ _ _ _ _ _, ?_⟩
        · rw [HTK.out, List.length_append, List.length_take, Nat.min_eq_left hj, show seqsV (G.take j ++ [p]) = seqsV (G.take j) ++ [.int .i64 sq] from by rw [← HSQ.out]; simp [seqsV]]
          refine r.kept fun k hk _ => ?_
          have hn := hne k hk
          rw [heap_setCell_other _ _ _ _ hn, heap_setCell_other _ _ _ _ hn, heap_setCell_other _ _ _ _ hn, heap_setCell_other _ _ _ _ hn, heap_setCell_other _ _ _ _ hn, heap_setCell_other _ _ _ _ hn]
        · rw [HAST2.out, HRC.out]
          exact set6 _ _ _ _ _ _ k2)
      clear hrw hnews hjk
      go_region_law ((refine step_append_row _ (by rfl) (.tmp 51) (.tmp 54) 68 (by rfl) 3 i0 _ 1 8 Tryd.underlying68 hi hz0 hz1 hz2 (by rfl) (by decide) _ j _ (by rfl) (HRW.out.kept (fun k _ hk => Below.heap_alloc wb.drew _ _ hk)) ⟨wb.heap.size, 0, none⟩ 1 1 [.int .i64 sq] (by rfl) (by rfl) HNW.out (by simp [Value.oneCell']) (by unfold maxLen; omega) (by omega) ?_; intro v2 w10 r10 t10 o10; obtain ⟨a2, c2, rfl⟩ := r10.slice; obtain ⟨hk1, hk2⟩ := HKEEP.out w10 t10; obtain ⟨e0, e1, e2, e3, e4, e5⟩ := sixC hk1; obtain ⟨l0, l1, l2, l3, l4, l5⟩ := sixC hk2; have lf : ∀ j, w10.frozen? ⟨lb, j, none⟩ = false := fun j => frozen_of_row w10 lb j _ _ hk2; have hl10 := heap_lt hk2; have hb10 := heap_lt hk1; have R10 := Lib.hid r10; have T10 := Lib.hid t10; have O10 := Lib.hid o10; have K2 := Lib.hid hk2; clear r10 t10 o10 hk1 hk2))
      all_goals
        have HFI := Lib.hid (HEND.out _ _ R10.out T10.out O10.out K2.out)
        clear HEND HKEEP HRW HNW e0 e1 e2 e3 e4 e5 l0 l1 l2 l3 l4 l5 q0 q1 q2 q3 q4 q5 y0 y1 y2 y3 y4 y5
        go_wp2_with fail
        exact ⟨⟨j + 1, by omega, fun h => absurd rfl h, by rw [HAST1.out], Lib.hid HFI.out.1, Lib.hid HFI.out.2.1, Lib.hid HFI.out.2.2⟩, by simp; omega⟩
    · have HC := Lib.hid hc
      clear hc
      go_wp2_with fail
      refine HNX.out.mono ?_
      rintro e w9 ⟨i, h1, h2, rfl, hb9⟩
      have hE : ∃ E, E ≠ 0 ∧ seekR er ((L.drop i).find? (tk f.data.toList)) = (Rc.zero, E) := by
        by_cases he : er = 0
        · have hjl : j = G.length := by
            have := HC.out
            rcases Nat.lt_or_ge j G.length with h | h
            · exact absurd ⟨he, h⟩ this
            · omega
          have hnf := next_found HRI.out.rise HG.out (fun r hr => (HRI.out.seqs r hr).1) hj (by rw [HQA.out]; exact h1) (by rw [HQA.out]; exact h2)
          refine ⟨4, by decide, ?_⟩
          rw [hnf, hjl, List.getElem?_eq_none_iff.2 (Nat.le_refl _), he]; rfl
        · exact ⟨er, he, by unfold seekR; rw [if_pos he]⟩
      obtain ⟨E, hE0, hsk⟩ := hE
      rw [hsk, show recV Rc.zero = .agg #[.int .i64 0, .int .i64 0, .int .i64 0, .string ⟨#[]⟩, .string ⟨#[]⟩, .string ⟨#[]⟩] from rfl]
      have he0 : ((E : Int) != 0) = true := by simpa using hE0
      have hKP : L.filter (matchP f.data.toList) = G.take j := by
        rw [match_all HRI.out.good, HER.out]
        by_cases he : er = 0
        · rw [if_pos he, HG.out]
          have hjl : j = G.length := by
            have := HC.out
            rcases Nat.lt_or_ge j G.length with h | h
            · exact absurd ⟨he, h⟩ this
            · omega
          rw [List.take_of_length_le (by omega)]
        · rw [if_neg he, HEJ.out he]; rfl
      have hLS : ∃ E2 : Nat, seekR er (L.reverse.find? (tk f.data.toList)) = (lastG G j, E2) ∧ (E2 = 0 ↔ 0 < j) := by
        by_cases he : er = 0
        · have hjl : j = G.length := by
            have := HC.out
            rcases Nat.lt_or_ge j G.length with h | h
            · exact absurd ⟨he, h⟩ this
            · omega
          rw [last_found, HG.out, lastG_all, he, hjl]
          by_cases hg0 : G.length = 0
          · rw [if_pos hg0]
            exact ⟨4, by rw [hg0]; rfl, by omega⟩
          · rw [if_neg hg0]
            exact ⟨0, rfl, by omega⟩
        · refine ⟨er, ?_, ?_⟩
          · rw [HEJ.out he]; unfold seekR; rw [if_pos he]; rfl
          · have := HEJ.out he; omega
      obtain ⟨E2, hls1, hls2⟩ := hLS
      have hjlen : (G.take j).length = j := by rw [List.length_take]; omega
      obtain ⟨K, hK⟩ : ∃ K, G.take j = K := ⟨_, rfl⟩
      obtain ⟨LR, hLR⟩ : ∃ LR, lastG G j = LR := ⟨_, rfl⟩
      rw [hK] at hKP hjlen
      rw [hLR] at hls1
      have HKP := Lib.hid hKP; have HKL := Lib.hid hjlen; have HLS := Lib.hid hls1; have HLS2 := Lib.hid hls2
      have HO9 := Lib.hid (show OutI w7 w9 (.slice va j vc) K from ⟨by rw [← hK]; exact HO.out.1.kept fun k _ hk => hb9.block k hk, HO.out.2⟩)
      have HW9 := Lib.hid (HW.out.trans (hb9.mono HW.out.size))
      have hlb9 := (hb9.block lb (heap_lt HLr.out)).trans HLr.out
      rw [hLR] at hlb9
      obtain ⟨wb, hwb⟩ : ∃ wb, wb = w9.alloc (.cells #[.int .i64 0, .int .i64 0, .int .i64 0, .string ⟨#[]⟩, .string ⟨#[]⟩, .string ⟨#[]⟩] 56) := ⟨_, rfl⟩
      have hba : Below w9.heap.size w9 wb := by rw [hwb]; exact (Below.refl _ _).alloc (Nat.le_refl _) _
      have HWb := Lib.hid (HW9.out.trans (hba.mono HW9.out.size))
      have HALL := Lib.hid (all_any (HS6.out.next HWb.out))
      have HOb := Lib.hid (show OutI w7 wb (.slice va j vc) K from ⟨HO9.out.1.kept fun k _ hk => hba.block k hk, HO9.out.2⟩)
      have HLBb := Lib.hid ((hba.block lb (heap_lt hlb9)).trans hlb9)
      have hj200 : j ≤ 200 := by omega
      obtain ⟨m, hmL⟩ : ∃ m, L.length = m := ⟨_, rfl⟩
      have HM := Lib.hid hmL
      have hm200 : m ≤ 200 := by rw [← hmL]; exact HRI.out.few
      clear h1 h2 hb9 hE0 hsk hKP hls1 hls2 hjlen hK hLR hlb9 hba hmL HNX HO HW HLr HC HEJ
      go_upto_region 12 with fail
      rw [← hwb]
      clear hwb
      go_wp2_with fail
      refine HALL.out.mono ?_
      rintro e w10 ⟨v10, rfl, hr10, hb10, ho10⟩
      have HR10 := Lib.hid (row_recs hr10)
      have HW10 := Lib.hid (HWb.out.trans (hb10.mono HWb.out.size))
      have HO10 := Lib.hid (show OutI w7 w10 (.slice va j vc) K from ⟨HOb.out.1.kept fun k _ hk => hb10.block k hk, HOb.out.2⟩)
      have HLB10 := Lib.hid ((hb10.block lb (heap_lt HLBb.out)).trans HLBb.out)
      obtain ⟨a6, c6, hv6, _⟩ := HR10.out
      rw [HM.out] at hv6
      subst hv6
      clear hr10 hb10 ho10 HALL
      go_wp2_with fail
      go_loopw [9, 63] (fun wv i wr => ∃ k : Nat, k ≤ m ∧ i = .int .i64 k ∧ Hid (OutI w10 wr wv ((L.take k).filter (matchP f.data.toList))) ∧ Hid (Below w10.heap.size w10 wr)) (fun _ i _ => m - (intOf i).toNat)
      case atStart => exact ⟨0, Nat.zero_le _, rfl, Lib.hid ⟨Row.nil _ _ _, fun k hk => by simp [own, Value.ownBlock] at hk⟩, Lib.hid (Below.refl _ _)⟩
      case round =>
        obtain ⟨k, hk, rfl, HOw, HWw⟩ := hrel
        by_cases hlt : k < m
        · have hltz : (k : Int) < m := by omega
          obtain ⟨p, hp⟩ : ∃ p, L[k]? = some p := ⟨_, List.getElem?_eq_getElem (by rw [HM.out]; exact hlt)⟩
          obtain ⟨a', c', hv, ha⟩ := HR10.out.below HWw.out (Nat.le_refl _)
          simp only [Value.slice.injEq] at hv
          obtain ⟨rfl, hv0, rfl⟩ := hv
          clear hv0
          obtain ⟨g, off, rfl, hcs⟩ := ha (fun e => by rw [e] at hp; simp at hp)
          obtain ⟨m0, m1, m2, m3, m4, m5⟩ := hcs k p hp
          obtain ⟨s, h, d, hpp⟩ := parts p
          rw [hpp.s1] at m3
          rw [hpp.h1] at m4
          rw [hpp.d1] at m5
          have hpg := good_parts (HRI.out.good p (List.mem_of_getElem? hp)).1 (HRI.out.good p (List.mem_of_getElem? hp)).2
          obtain ⟨B, hB⟩ : ∃ B, matchP f.data.toList p = B := ⟨_, rfl⟩
          have hst := want_step hp B hB
          unfold matchP at hB
          rw [← hpp.s2] at hB
          have hKl : ((L.take k).filter (matchP f.data.toList)).length ≤ 200 := Nat.le_trans (List.length_filter_le _ _) (by rw [List.length_take]; omega)
          obtain ⟨K2, hK2⟩ : ∃ K2, (L.take k).filter (matchP f.data.toList) = K2 := ⟨_, rfl⟩
          rw [hK2] at hst hKl HOw
          obtain ⟨kd, hkd⟩ : ∃ kd, p.kind = kd := ⟨_, rfl⟩
          obtain ⟨sq, hsq⟩ : ∃ sq, p.seq = sq := ⟨_, rfl⟩
          obtain ⟨tm, htm⟩ : ∃ tm, p.time = tm := ⟨_, rfl⟩
          rw [hkd] at m0
          rw [hsq] at m1
          rw [htm] at m2
          obtain ⟨wd, hwd⟩ : ∃ wd, wd = wr.alloc (.cells #[.int .i64 kd, .int .i64 sq, .int .i64 tm, .string s, .string h, .string d] 56) := ⟨_, rfl⟩
          have hba : Below wr.heap.size wr wd := by rw [hwd]; exact (Below.refl _ _).alloc (Nat.le_refl _) _
          have hea : wd.heap[wr.heap.size]? = some (.cells #[.int .i64 kd, .int .i64 sq, .int .i64 tm, .string s, .string h, .string d] 56 (0, 0)) := by rw [hwd]; exact heap_alloc_new wr _
          obtain ⟨bz, hbz⟩ : ∃ bz, wr.heap.size = bz := ⟨_, rfl⟩
          rw [hbz] at hea
          have hWd := HWw.out.trans (hba.mono HWw.out.size)
          have hbase : Below w.heap.size w wd := HB6.out.trans ((HW10.out.trans (hWd.mono HW10.out.size)).mono HB6.out.size)
          have hIS := Subj.is_match f s wd hfz (by rw [hpp.s3]; omega) (HML.out.below hbase)
          rw [hB] at hIS
          have HIS := Lib.hid hIS; have HSTEP := Lib.hid hst; have HEA := Lib.hid hea; have HBZ := Lib.hid hbz; have HWd := Lib.hid hWd
          have HOd := Lib.hid (show OutI w10 wd u9 K2 from ⟨HOw.out.1.kept fun k _ hk => hba.block k hk, HOw.out.2⟩)
          have HSQ := Lib.hid hsq
          obtain ⟨q0, q1, q2, q3, q4, q5⟩ := sixC hea
          have hbzl := heap_lt hea
          clear ha hcs hp hpp hpg hB hst hK2 hkd hsq htm hba hea hbz hWd hbase hIS HOw HWw
          go_upto_region 17 with fail
          rw [← hwd, HBZ.out]
          clear hwd m0 m1 m2 m3 m4 m5
          go_wp2_with fail
          refine HIS.out.mono ?_
          rintro e w11 ⟨rfl, hb11⟩
          have hea11 := (hb11.block bz hbzl).trans HEA.out
          obtain ⟨q0, q1, q2, q3, q4, q5⟩ := sixC hea11
          have hbzl11 := heap_lt hea11
          have HW11 := Lib.hid (HWd.out.trans (hb11.mono HWd.out.size))
          have HO11 := Lib.hid (show OutI w10 w11 u9 K2 from ⟨HOd.out.1.kept fun k _ hk => hb11.block k hk, HOd.out.2⟩)
          clear hb11 hea11 HIS HOd HWd
          cases B with
          | false =>
            go_wp2_with fail
            exact ⟨⟨k + 1, by omega, by go_num, Lib.hid (by rw [HSTEP.out]; simpa using HO11.out), HW11⟩, by simp [intOf]; omega⟩
          | true =>
            have hr1 : Row (w11.alloc (.cells #[.int .i64 sq] 3)) 3 1 u9 K2.length (seqsV K2) := HO11.out.1.kept fun k _ hk => Below.heap_alloc _ _ _ hk
            have hnews : ∀ k u, ([.int .i64 sq] : List Value)[k]? = some u → (w11.alloc (.cells #[.int .i64 sq] 3)).cell? ((⟨w11.heap.size, 0, none⟩ : Addr).add k) = some u := fun k u hk => by
              rw [Addr.add_lit, cell_of_row _ w11.heap.size (0 + k) _ _ _ (heap_alloc_new w11 _), Nat.zero_add]
              rcases k with _ | k
              · simpa using hk
              · simp at hk
            have HRW := Lib.hid hr1; have HNW := Lib.hid hnews
            clear hr1 hnews
            go_wp2_with (at_builtin; refine Heap.wpList_append_row _ rfl (.tmp 71) (.tmp 74) 68 rfl 3 i0 _ 1 8 Tryd.underlying68 hi hz0 hz1 hz2 rfl (by decide) _ K2.length _ rfl HRW.out ⟨w11.heap.size, 0, none⟩ 1 1 [.int .i64 sq] rfl rfl HNW.out (by simp [Value.oneCell']) (by unfold maxLen; omega) (by omega) ?_)
            intro v2 w12 r12 t12 o12
            have HF2 := Lib.hid (show Below w10.heap.size w10 w12 ∧ OutI w10 w12 v2 (K2 ++ [p]) from by
              have hb3 : Below w10.heap.size w10 (w11.alloc (.cells #[.int .i64 sq] 3)) := HW11.out.alloc HW11.out.size _
              refine ⟨hb3.trans (t12.below hb3.size fun k hk => HO11.out.2 k hk), ?_, fun k hk => ?_⟩
              · rw [List.length_append, show seqsV (K2 ++ [p]) = seqsV K2 ++ [.int .i64 sq] from by rw [← HSQ.out]; simp [seqsV]]; exact r12
              · rcases o12 k hk with h | h
                · exact HO11.out.2 k h
                · have h9 := HW11.out.size; omega)
            clear r12 t12 o12 HRW HNW HO11 HW11 q0 q1 q2 q3 q4 q5
            go_wp2_with fail
            exact ⟨⟨k + 1, by omega, by go_num, Lib.hid (by rw [HSTEP.out]; exact HF2.out.2), Lib.hid HF2.out.1⟩, by simp [intOf]; omega⟩
        · have hltz : ¬ (k : Int) < m := by omega
          obtain rfl : k = m := by omega
          have hWK : OutI w10 wr u9 K := by
            have h5 := HOw.out
            rw [List.take_of_length_le (by rw [HM.out]; exact Nat.le_refl _), HKP.out] at h5
            exact h5
          obtain ⟨ua, uc, hu⟩ := hWK.1.slice
          rw [HKL.out] at hu
          subst hu
          have HWr := Lib.hid (HW10.out.trans (HWw.out.mono HW10.out.size))
          have hla := last_any (HS6.out.next HWr.out) HML.out f hfz
          rw [HER.out, HLS.out] at hla
          obtain ⟨s, h, d, hpp⟩ := parts LR
          have hrv : recV LR = .agg #[.int .i64 LR.kind, .int .i64 LR.seq, .int .i64 LR.time, .string s, .string h, .string d] := by unfold recV; rw [hpp.s1, hpp.h1, hpp.d1]
          have hrc : recC LR = [.int .i64 LR.kind, .int .i64 LR.seq, .int .i64 LR.time, .string s, .string h, .string d] := by unfold recC; rw [hpp.s1, hpp.h1, hpp.d1]
          simp only [hrv] at hla
          have hlbr := (HWw.out.block lb (heap_lt HLB10.out)).trans HLB10.out
          rw [hrc] at hlbr
          generalize LR.kind = kd at hla hlbr
          generalize LR.seq = sq at hla hlbr
          generalize LR.time = tm at hla hlbr
          have HLA := Lib.hid hla
          have HG1 := Lib.hid (show Row wr 3 1 (.slice va j vc) K.length (seqsV K) from HO10.out.1.kept fun k _ hk => HWw.out.block k hk)
          have HG2 := Lib.hid hWK.1
          have HLBR := Lib.hid hlbr
          have HBr2 := Lib.hid (HB6.out.trans (HWr.out.mono HB6.out.size))
          have hll := heap_lt hlbr
          clear hla hpp hrv hrc hlbr hWK HOw HWw
          go_wp2_with fail
          refine HLA.out.mono ?_
          rintro e w13 ⟨rfl, hb13⟩
          obtain ⟨we, hwe⟩ : ∃ we, we = w13.alloc (.cells #[.int .i64 kd, .int .i64 sq, .int .i64 tm, .string s, .string h, .string d] 56) := ⟨_, rfl⟩
          have hbe : Below w13.heap.size w13 we := by rw [hwe]; exact (Below.refl _ _).alloc (Nat.le_refl _) _
          have hee : we.heap[w13.heap.size]? = some (.cells #[.int .i64 kd, .int .i64 sq, .int .i64 tm, .string s, .string h, .string d] 56 (0, 0)) := by rw [hwe]; exact heap_alloc_new w13 _
          have hbre := hb13.trans (hbe.mono hb13.size)
          have hlbe := (hbre.block lb hll).trans HLBR.out
          have heq := equal_ints (HG1.out.kept fun k _ hk => hbre.block k hk) (HG2.out.kept fun k _ hk => hbre.block k hk) (by rw [HKL.out]; omega)
          obtain ⟨bw, hbw⟩ : ∃ bw, w13.heap.size = bw := ⟨_, rfl⟩
          rw [hbw] at hee
          have HEQ := Lib.hid heq; have HBW := Lib.hid hbw; have HEE := Lib.hid hee; have HLBE := Lib.hid hlbe
          have HFI := Lib.hid (HBr2.out.trans (hbre.mono HBr2.out.size))
          clear hb13 hbe hee hbre hlbe heq hbw HLA
          go_upto_region 21 with fail
          rw [← hwe, HBW.out]
          clear hwe
          go_wp2_with fail
          refine HEQ.out.mono ?_
          rintro e w14 ⟨rfl, qq, rfl⟩
          obtain ⟨q0, q1, q2, q3, q4, q5⟩ := sixC (w := we.drewN qq) HEE.out
          obtain ⟨y0, y1, y2, y3, y4, y5⟩ := sixC (w := we.drewN qq) HLBE.out
          have HF2 := Lib.hid (below_drewN HFI.out qq)
          obtain ⟨wf, hwf⟩ : ∃ wf, wf = we.drewN qq := ⟨_, rfl⟩
          rw [← hwf] at q0 q1 q2 q3 q4 q5 y0 y1 y2 y3 y4 y5 HF2 ⊢
          clear hwf HEQ
          by_cases hj0 : 0 < j
          · obtain rfl : E2 = 0 := HLS2.out.2 hj0
            have hjz : (0 : Int) < j := by omega
            have hd1 : decide ((0 : Int) < j) = true := decide_eq_true hjz
            have hd2 : decide (0 < j) = true := decide_eq_true hj0
            go_wp2_with fail
            go_ret
            exact ⟨by simp, HF2.out⟩
          · have hE2 : E2 ≠ 0 := fun e => hj0 (HLS2.out.1 e)
            have he2 : ((E2 : Int) == 0) = false := by rw [beq_eq_false_iff_ne]; omega
            have hjz : ¬ (0 : Int) < j := by omega
            have hd1 : decide ((0 : Int) < j) = false := decide_eq_false hjz
            have hd2 : decide (0 < j) = false := decide_eq_false hj0
            go_wp2_with fail
            go_ret
            exact ⟨by simp, HF2.out⟩
end
end Go.Proofs.YtpmffneohcbhbaaDoor.Sto
