/- Parts of the proof, joined: A stream's laws in plain Lean: what is refused changes nothing, what rolls up, one id twice. No program here.; A post as a value; its size; how many messages of its subject there are: stream.size, (*Stream).many, crowded, walked. -/
import Derived.Test.YtbgchhgdlceceaaGreatDoorStrmBaseM28
namespace Go.Proofs.YtbgchhgdlceceaaGreatDoor.Strm
open Dsk Log
open Vlt (Vt doV Whole)
open Rec (Rc recErr far codedL)
open Sto (tryD after leftS lastS tk bytesR cntR dist Right sizeR hasSeq)
open Subj (Tok takes pieces err planErr inAll plan_facts err_wild)
open Idx (Ents)

/-- The numbers of a disk's files are low. -/
def Num (c : Nat) (A : List FileP) : Prop := ∀ n ∈ A.map (·.n), 0 ≤ n ∧ n ≤ (c : Int)

theorem Num.mono {c d : Nat} {A : List FileP} (h : Num c A) (hd : c ≤ d) : Num d A := fun n hn => by have := h n hn; omega

theorem num_sync {c : Nat} {A : List FileP} {n : Int} (h : Num c A) : Num c (syncD A n).1 := by
  unfold syncD
  split
  · unfold Num; rw [map_setF]; exact h
  · exact h

theorem num_syncL {c : Nat} {A : List FileP} (h : Num c A) : Num c (syncL A) := by
  unfold syncL
  split
  · exact h
  · exact num_sync h

theorem num_app {c : Nat} {room : Int} {A : List FileP} {n : Int} {T : List UInt8} (h : Num c A) (hn : 0 ≤ n ∧ n ≤ (c : Int)) (hc : (c : Int) ≤ far) : Num c (appD room A n T).1 ∧ ((appD room A n T).2 = 0 ∨ (appD room A n T).2 = 8) := by
  have hfar : far = 1099511627776 := rfl
  unfold appD
  rw [if_neg (by omega)]
  split
  · exact ⟨h, .inr rfl⟩
  · split
    · refine ⟨?_, .inl rfl⟩
      unfold Num; rw [map_setF]; exact h
    · split
      · exact ⟨h, .inr rfl⟩
      · refine ⟨fun m hm => ?_, .inl rfl⟩
        obtain ⟨x, hx, rfl⟩ := List.mem_map.1 hm
        rcases mem_insF.1 hx with rfl | hx
        · exact hn
        · exact h _ (List.mem_map_of_mem hx)

theorem num_log {c : Nat} {room size : Int} {A : List FileP} {r : Rc} (h : Num c A) (hc : (c : Int) < far) (he : recErr r = 0) : Num (c + 1) (logD room size A r).1 ∧ ((logD room size A r).2 = 0 ∨ (logD room size A r).2 = 8) := by
  unfold logD
  rw [if_neg (by omega)]
  unfold putD
  split
  · exact num_app (h.mono (by omega)) (by omega) (by omega)
  · rename_i q hq
    have hm := h q.n (List.mem_map_of_mem (List.mem_of_getLast? hq))
    split
    · exact num_app ((num_sync h).mono (by omega)) (by omega) (by omega)
    · exact num_app (h.mono (by omega)) (by omega) (by omega)

/-- One record: what may be wrong. -/
theorem num_do {c : Nat} {room size : Int} {s : Vt} {r : Rc} (h : Num c s.A) (hc : (c : Int) < far) : Num (c + 1) (doV room size s r).1.A ∧ ((doV room size s r).2 = 0 ∨ (doV room size s r).2 = tryD s.L s.last r ∨ (doV room size s r).2 = 8) := by
  unfold doV
  split
  · exact ⟨h.mono (by omega), .inr (.inl rfl)⟩
  · rename_i ht
    have he : recErr r = 0 := Vlt.try_err (Classical.not_not.1 ht)
    obtain ⟨h1, h2⟩ := num_log (room := room) (size := size) h hc he
    split
    · rename_i hl
      refine ⟨h1, .inr (.inr ?_)⟩
      rcases h2 with h2 | h2
      · exact absurd h2 hl
      · exact h2
    · exact ⟨num_syncL h1, .inl rfl⟩

theorem era_err {q now : Int} (hq : 1 ≤ q ∧ q ≤ far) (hn : 0 ≤ now ∧ now ≤ far) : recErr (eraR q now) = 0 := by
  unfold recErr eraR
  simp only
  rw [if_neg (by omega), if_neg (by omega), if_neg (by omega), if_pos ⟨trivial, trivial, trivial⟩]

theorem pur_err {q now : Int} {f : Tok} (hq : 1 ≤ q ∧ q ≤ far) (hn : 0 ≤ now ∧ now ≤ far) (hf : err true f = 0) : recErr (purR q now f) = 0 := by
  unfold recErr purR
  simp only
  rw [if_neg (by omega), if_neg (by omega), if_pos trivial, if_neg (by omega), if_pos ⟨trivial, trivial⟩]

theorem msg_err {q now : Int} {x : Po} (hq : 1 ≤ q ∧ q ≤ far) (hn : 0 ≤ now ∧ now ≤ far) (hs : err false x.subj = 0) (hl : x.head.length + x.data.length ≤ 256) : recErr (msgR q now x) = 0 := by
  unfold recErr msgR
  simp only
  rw [if_neg (by omega), if_pos trivial, if_neg (by omega), if_neg (by omega)]

theorem roll_err {x : Po} (hs : err false x.subj = 0) : err true (rollF x) = 0 := by
  unfold rollF
  split
  · decide
  · exact err_wild x.subj hs

/-- Messages whose numbers are right. -/
def Seqs (L : List Rc) : Prop := ∀ r ∈ L, 1 ≤ r.seq ∧ r.seq ≤ far
theorem seqs_of {L : List Rc} {last : Int} {I : Ents} (h : Right L last I) : Seqs L := fun r hr => by
  have h1 := (h.good r hr).1
  unfold recErr at h1
  split at h1
  · cases h1
  · omega

theorem try_era {L : List Rc} {last now : Int} {r : Rc} (hs : Seqs L) (hr : r ∈ L) (hn : 0 ≤ now ∧ now ≤ far) : tryD L last (eraR r.seq now) = 0 := by
  unfold tryD
  rw [if_neg (by rw [era_err (hs r hr) hn]; simp), if_neg (by show ¬ (2 : Int) = 1; omega), if_pos (by rfl), if_pos ?_]
  unfold hasSeq
  rw [List.any_eq_true]
  exact ⟨r, hr, by simp [eraR]⟩

/-- An erasing has what it may erase. -/
theorem erase_num {c : Nat} {room size now : Int} {f : Tok} {s : Vt} (h : Num c s.A) (hc : (c : Int) < far) (hs : Seqs s.L) (hn : 0 ≤ now ∧ now ≤ far) (hx : ∃ r ∈ s.L, tk f r = true) :
    Num (c + 1) (eraseP room size now f s).1.A ∧ ((eraseP room size now f s).2 = 0 ∨ (eraseP room size now f s).2 = 8) := by
  unfold eraseP
  cases hf : s.L.find? (tk f) with
  | none =>
    obtain ⟨r, h1, h2⟩ := hx
    rw [List.find?_eq_none] at hf
    exact absurd h2 (hf r h1)
  | some r =>
    have hr := List.mem_of_find?_eq_some hf
    obtain ⟨h1, h2⟩ := num_do (room := room) (size := size) (r := eraR r.seq now) h hc
    refine ⟨h1, ?_⟩
    rw [try_era hs hr hn] at h2
    rcases h2 with h2 | h2 | h2
    · exact .inl h2
    · exact .inl h2
    · exact .inr h2

theorem thin_num {room size now : Int} {f : Tok} {t : Vt → Bool} (hn : 0 ≤ now ∧ now ≤ far) (ht : ∀ s : Vt, Seqs s.L → t s = true → ∃ r ∈ s.L, tk f r = true) (n : Nat) :
    ∀ (c : Nat) (s : Vt), Num c s.A → ((c + n : Nat) : Int) ≤ far → Seqs s.L → Num (c + n) (thin t (eraseP room size now f) n s).1.A ∧ ((thin t (eraseP room size now f) n s).2 = 0 ∨ (thin t (eraseP room size now f) n s).2 = 8) := by
  induction n with
  | zero => intro c s h _ _; exact ⟨h, .inl rfl⟩
  | succ n ih =>
    intro c s h hc hs
    have hun : thin t (eraseP room size now f) (n + 1) s = if t s then (if (eraseP room size now f s).2 ≠ 0 then eraseP room size now f s else thin t (eraseP room size now f) n (eraseP room size now f s).1) else (s, 0) := rfl
    rw [hun]
    clear hun
    split
    · rename_i h1
      obtain ⟨h2, h3⟩ := erase_num (room := room) (size := size) h (by omega) hs hn (ht s hs h1)
      split
      · exact ⟨h2.mono (by omega), h3⟩
      · have hsub : (eraseP room size now f s).1.L.Sublist s.L := by
          rcases erase_step room size now f s with ⟨_, e, _⟩ | ⟨_, e, _⟩
          · rw [e]; exact List.Sublist.refl _
          · exact e
        have := ih (c + 1) (eraseP room size now f s).1 h2 (by omega) fun r hr => hs r (hsub.mem hr)
        rw [show c + (n + 1) = c + 1 + n by omega]
        exact this
    · exact ⟨h.mono (by omega), .inl rfl⟩

theorem crowd_has {p : Pl} {x : Po} (he : err false x.subj = 0) (s : Vt) (h : crowdedP p x s = true) : ∃ r ∈ s.L, tk x.subj r = true := by
  unfold crowdedP at h
  rw [Bool.and_eq_true, decide_eq_true_eq, decide_eq_true_eq] at h
  have h0 : 0 < cntR s.L x.subj := by omega
  unfold cntR at h0
  obtain ⟨r, hr, h1⟩ := List.countP_pos_iff.1 h0
  exact ⟨r, hr, by rw [tk_subj he]; exact h1⟩

theorem full_has {p : Pl} {x : Po} (hb : ¬ (0 < p.bytes ∧ p.bytes < (sizeP x : Nat))) (s : Vt) (h : fullP p x s = true) : ∃ r ∈ s.L, tk [62] r = true := by
  cases hL : s.L with
  | nil =>
    unfold fullP at h
    rw [hL] at h
    simp only [Bool.or_eq_true, Bool.and_eq_true, decide_eq_true_eq] at h
    have h0 : bytesR [] = 0 := rfl
    rw [h0] at h
    simp only [List.length_nil] at h
    omega
  | cons a l => exact ⟨a, by simp, tk_tail a⟩

theorem room_num {p : Pl} {c : Nat} {room size now : Int} {x : Po} {s : Vt} (hn : 0 ≤ now ∧ now ≤ far) (he : err false x.subj = 0) (h : Num c s.A) (hc : ((c + 402 : Nat) : Int) ≤ far) (hs : Seqs s.L) :
    Num (c + 402) (roomP p room size now x s).1.A ∧ ((roomP p room size now x s).2 = 0 ∨ (roomP p room size now x s).2 = 8) := by
  unfold roomP
  split
  · exact ⟨h.mono (by omega), .inr rfl⟩
  · rename_i hb
    split
    · split
      · exact ⟨h.mono (by omega), .inr rfl⟩
      · exact ⟨h.mono (by omega), .inl rfl⟩
    · obtain ⟨a1, a2⟩ := thin_num (room := room) (size := size) (t := crowdedP p x) hn (fun s _ => crowd_has he s) 201 c s h (by omega) hs
      have hsub : (thin (crowdedP p x) (eraseP room size now x.subj) 201 s).1.L.Sublist s.L := by
        have key : ∀ n (s : Vt), (thin (crowdedP p x) (eraseP room size now x.subj) n s).1.L.Sublist s.L := by
          intro n
          induction n with
          | zero => intro s; exact List.Sublist.refl _
          | succ n ih =>
            intro s
            unfold thin
            have h1 : (eraseP room size now x.subj s).1.L.Sublist s.L := by
              rcases erase_step room size now x.subj s with ⟨_, e, _⟩ | ⟨_, e, _⟩
              · rw [e]; exact List.Sublist.refl _
              · exact e
            split
            · split
              · exact h1
              · exact (ih _).trans h1
            · exact List.Sublist.refl _
        exact key 201 s
      split
      · exact ⟨a1.mono (by omega), a2⟩
      · obtain ⟨b1, b2⟩ := thin_num (room := room) (size := size) (t := fullP p x) hn (fun s _ => full_has hb s) 201 (c + 201) _ a1 (by omega) fun r hr => hs r (hsub.mem hr)
        exact ⟨b1.mono (by omega), b2⟩

/-- The numbers behind a post. -/
theorem pub_num {p : Pl} {c : Nat} {room size now : Int} {x : Po} {s : Sm} {I : Ents} (hR : Right s.v.L s.v.last I) (h : Num c s.v.A) (hc : ((c + 410 : Nat) : Int) ≤ far) : Num (c + 410) (pubP p room size now x s).1.v.A := by
  unfold pubP
  split
  · exact h.mono (by omega)
  · rename_i h0
    obtain ⟨⟨n1, n2, _⟩, he, _⟩ := check_facts (Classical.not_not.1 h0)
    split
    · exact h.mono (by omega)
    · split
      · exact h.mono (by omega)
      · obtain ⟨a1, _⟩ := room_num (p := p) (room := room) (size := size) (x := x) ⟨n1, n2⟩ he h (by omega) (seqs_of hR)
        generalize roomP p room size now x s.v = a at *
        split
        · exact a1.mono (by omega)
        · unfold writeP
          obtain ⟨b1, _⟩ := num_do (room := room) (size := size) (r := msgR (s.v.last + 1) now x) a1 (by omega)
          simp only
          generalize doV room size a.1 (msgR (s.v.last + 1) now x) = b at *
          split
          · exact b1.mono (by omega)
          · unfold rollP
            obtain ⟨c1, _⟩ := num_do (room := room) (size := size) (r := purR (s.v.last + 1) now (rollF x)) b1 (by omega)
            simp only
            split
            · exact b1.mono (by omega)
            · split
              · exact c1.mono (by omega)
              · exact c1.mono (by omega)

/-- What is refused ahead of all writing changes no message. -/
theorem pub_refuses {p : Pl} {c : Nat} {room size now : Int} {x : Po} {s : Sm} {I : Ents} (hR : Right s.v.L s.v.last I) (h : Num c s.v.A) (hc : ((c + 410 : Nat) : Int) ≤ far) (hl : s.v.last < far) (hd : 0 ≤ p.disc ∧ p.disc ≤ 1)
    (h0 : (pubP p room size now x s).2.er ≠ 0) (h8 : ¬ ((pubP p room size now x s).2.er = 8 ∧ (p.disc = 0 ∨ x.roll ≠ 0))) : (pubP p room size now x s).1.v.L = s.v.L := by
  have hq : 1 ≤ s.v.last + 1 ∧ s.v.last + 1 ≤ far := by have := hR.range; omega
  unfold pubP at h0 h8 ⊢
  by_cases hch : checkP p now x ≠ 0
  · rw [if_pos hch]
  · rw [if_neg hch] at h0 h8 ⊢
    obtain ⟨⟨n1, n2, _, n3, _⟩, he, _, hln, _⟩ := check_facts (Classical.not_not.1 hch)
    by_cases hkn : 0 < knownP p s.ids now x.id
    · rw [if_pos hkn]
    · rw [if_neg hkn] at h0 h8 ⊢
      by_cases hex : 0 ≤ x.exp ∧ x.exp ≠ s.v.last
      · rw [if_pos hex]
      · rw [if_neg hex] at h0 h8 ⊢
        obtain ⟨a1, a2⟩ := room_num (p := p) (room := room) (size := size) (x := x) ⟨n1, n2⟩ he h (by omega) (seqs_of hR)
        obtain ⟨f1, f2, _, f4⟩ := room_facts (p := p) (room := room) (size := size) (now := now) (x := x) (s := s.v) hR.few
        by_cases hro : (roomP p room size now x s.v).2 ≠ 0
        · rw [if_pos hro] at h0 h8 ⊢
          have e8 : (roomP p room size now x s.v).2 = 8 := a2.resolve_left hro
          show (roomP p room size now x s.v).1.L = s.v.L
          rw [f4 (by
            have : ¬ (p.disc = 0 ∨ x.roll ≠ 0) := fun e => h8 ⟨e8, e⟩
            omega)]
        · rw [if_neg hro] at h0 h8 ⊢
          generalize roomP p room size now x s.v = a at *
          unfold writeP at h0 h8 ⊢
          simp only at h0 h8 ⊢
          obtain ⟨b1, b2⟩ := num_do (room := room) (size := size) (r := msgR (s.v.last + 1) now x) a1 (by omega)
          have htr : tryD a.1.L a.1.last (msgR (s.v.last + 1) now x) = 0 ∨ tryD a.1.L a.1.last (msgR (s.v.last + 1) now x) = 8 := by
            unfold tryD
            rw [if_neg (by rw [msg_err hq ⟨n1, n2⟩ he hln]; simp), if_pos (by rfl), if_neg (by rw [f2]; show ¬ s.v.last + 1 ≤ s.v.last; omega)]
            split
            · exact .inr rfl
            · exact .inl rfl
          by_cases hdo : (doV room size a.1 (msgR (s.v.last + 1) now x)).2 ≠ 0
          · rw [if_pos hdo] at h0 h8 ⊢
            have e8 : (doV room size a.1 (msgR (s.v.last + 1) now x)).2 = 8 := by omega
            rcases do_cases (room := room) (size := size) (s := a.1) (r := msgR (s.v.last + 1) now x) with ⟨_, d2, _⟩ | ⟨d1, _⟩
            · show (doV room size a.1 (msgR (s.v.last + 1) now x)).1.L = s.v.L
              rw [d2, f4 (by
                have : ¬ (p.disc = 0 ∨ x.roll ≠ 0) := fun e => h8 ⟨e8, e⟩
                omega)]
            · exact absurd d1 hdo
          · rw [if_neg hdo] at h0 h8 ⊢
            generalize doV room size a.1 (msgR (s.v.last + 1) now x) = b at *
            unfold rollP at h0 h8 ⊢
            simp only at h0 h8 ⊢
            by_cases hrl : x.roll ≤ 0
            · rw [if_pos hrl] at h0; exact absurd rfl h0
            · rw [if_neg hrl] at h0 h8 ⊢
              obtain ⟨_, c2⟩ := num_do (room := room) (size := size) (r := purR (s.v.last + 1) now (rollF x)) b1 (by omega)
              have htp : tryD b.1.L b.1.last (purR (s.v.last + 1) now (rollF x)) = 0 := by
                unfold tryD
                rw [if_neg (by rw [pur_err hq ⟨n1, n2⟩ (roll_err he)]; simp), if_neg (by show ¬ (3 : Int) = 1; omega), if_neg (by show ¬ (3 : Int) = 2; omega)]
              by_cases hdp : (doV room size b.1 (purR (s.v.last + 1) now (rollF x))).2 ≠ 0
              · rw [if_pos hdp] at h0 h8
                have e8 : (doV room size b.1 (purR (s.v.last + 1) now (rollF x))).2 = 8 := by omega
                exact absurd ⟨e8, .inr (by omega)⟩ h8
              · rw [if_neg hdp] at h0; exact absurd rfl h0

/-- What a post that rolls up leaves. -/
theorem pub_rolls {p : Pl} {room size now : Int} {x : Po} {s : Sm} {I : Ents} (hR : Right s.v.L s.v.last I) (h0 : (pubP p room size now x s).2.er = 0) (ha : (pubP p room size now x s).2.again = false) (hr : x.roll ≠ 0) :
    ∃ l m, (pubP p room size now x s).1.v.L = l ++ [m] ∧ m.seq = (pubP p room size now x s).2.n ∧ ∀ r ∈ l, x.roll ≠ 2 ∧ r.subj ≠ x.subj := by
  unfold pubP at h0 ha ⊢
  by_cases hch : checkP p now x ≠ 0
  · rw [if_pos hch] at h0; exact absurd h0 hch
  · rw [if_neg hch] at h0 ha ⊢
    obtain ⟨⟨n1, n2, _, n3, n4⟩, he, _, hln, _⟩ := check_facts (Classical.not_not.1 hch)
    by_cases hkn : 0 < knownP p s.ids now x.id
    · rw [if_pos hkn] at ha; cases ha
    · rw [if_neg hkn] at h0 ha ⊢
      by_cases hex : 0 ≤ x.exp ∧ x.exp ≠ s.v.last
      · rw [if_pos hex] at h0; cases h0
      · rw [if_neg hex] at h0 ha ⊢
        obtain ⟨f1, f2, _, _⟩ := room_facts (p := p) (room := room) (size := size) (now := now) (x := x) (s := s.v) hR.few
        by_cases hro : (roomP p room size now x s.v).2 ≠ 0
        · rw [if_pos hro] at h0; exact absurd h0 hro
        · rw [if_neg hro] at h0 ha ⊢
          generalize roomP p room size now x s.v = a at *
          unfold writeP at h0 ha ⊢
          simp only at h0 ha ⊢
          rcases do_cases (room := room) (size := size) (s := a.1) (r := msgR (s.v.last + 1) now x) with ⟨d1, _⟩ | ⟨d1, _, d2, _⟩
          · rw [if_pos d1] at h0; exact absurd h0 d1
          · rw [write_left] at d2
            rw [if_neg (by omega)] at h0 ha ⊢
            generalize doV room size a.1 (msgR (s.v.last + 1) now x) = b at *
            unfold rollP at h0 ha ⊢
            simp only at h0 ha ⊢
            rw [if_neg (by omega)] at h0 ha ⊢
            rcases do_cases (room := room) (size := size) (s := b.1) (r := purR (s.v.last + 1) now (rollF x)) with ⟨e1, _⟩ | ⟨e1, _, e2, _⟩
            · rw [if_pos e1] at h0; exact absurd h0 e1
            · rw [if_neg (by omega)] at h0 ha ⊢
              show ∃ l m, (doV room size b.1 (purR (s.v.last + 1) now (rollF x))).1.L = l ++ [m] ∧ m.seq = s.v.last + 1 ∧ _
              have hk : leftS b.1.L (purR (s.v.last + 1) now (rollF x)) = b.1.L.filter fun y => !(decide (y.seq < s.v.last + 1) && takes (pieces (rollF x)) (pieces y.subj)) := by
                unfold leftS
                rw [if_neg (by show ¬ (3 : Int) = 1; omega), if_neg (by show ¬ (3 : Int) = 2; omega), if_pos (by rfl)]
                rfl
              rw [e2, hk, d2, List.filter_append]
              refine ⟨_, msgR (s.v.last + 1) now x, by
                congr 1
                rw [List.filter_cons, if_pos (by show (!(decide (s.v.last + 1 < s.v.last + 1) && _)) = true; simp)]
                rfl, rfl, fun r hr2 => ?_⟩
              obtain ⟨h1, h2⟩ := List.mem_filter.1 hr2
              have htop := hR.top r (f1.mem h1)
              have hlt : decide (r.seq < s.v.last + 1) = true := by simp; omega
              rw [hlt, Bool.true_and, Bool.not_eq_true'] at h2
              have h2 : tk (rollF x) r = false := h2
              unfold rollF at h2
              split at h2
              · rw [tk_tail] at h2; cases h2
              · rename_i h3
                refine ⟨h3, ?_⟩
                rw [tk_subj he] at h2
                simpa using h2

/-! ### one id twice -/

def s0 : Sm := ⟨⟨[], [], 0⟩, []⟩

theorem known_nil (p : Pl) (now : Int) (id : Tok) : knownP p [] now id = 0 := by
  unfold knownP
  split
  · rfl
  · rfl

/-- The first post of a stream. -/
theorem pub_first {p : Pl} {room size now : Int} {x : Po} (h0 : (pubP p room size now x s0).2.er = 0) :
    (pubP p room size now x s0).2.again = false ∧ (pubP p room size now x s0).2.n = 1 ∧ (pubP p room size now x s0).1.ids = idsP [] now 1 x ∧ (pubP p room size now x s0).1.v.last = 1 ∧ checkP p now x = 0 := by
  unfold pubP at h0 ⊢
  rw [show s0.ids = [] from rfl, known_nil] at h0 ⊢
  by_cases hch : checkP p now x ≠ 0
  · rw [if_pos hch] at h0; exact absurd h0 hch
  · rw [if_neg hch, if_neg (by omega)] at h0 ⊢
    by_cases hex : 0 ≤ x.exp ∧ x.exp ≠ s0.v.last
    · rw [if_pos hex] at h0; cases h0
    · rw [if_neg hex] at h0 ⊢
      by_cases hro : (roomP p room size now x s0.v).2 ≠ 0
      · rw [if_pos hro] at h0; exact absurd h0 hro
      · rw [if_neg hro] at h0 ⊢
        generalize roomP p room size now x s0.v = a at *
        unfold writeP at h0 ⊢
        simp only at h0 ⊢
        rw [show s0.v.last + 1 = 1 from rfl] at h0 ⊢
        rcases do_cases (room := room) (size := size) (s := a.1) (r := msgR 1 now x) with ⟨d1, _⟩ | ⟨d1, _, _, d3⟩
        · rw [if_pos d1] at h0; exact absurd h0 d1
        · rw [if_neg (by omega)] at h0 ⊢
          have d3 : (doV room size a.1 (msgR 1 now x)).1.last = 1 := d3
          generalize doV room size a.1 (msgR 1 now x) = b at *
          unfold rollP at h0 ⊢
          simp only at h0 ⊢
          by_cases hrl : x.roll ≤ 0
          · rw [if_pos hrl]
            exact ⟨rfl, rfl, rfl, d3, Classical.not_not.1 hch⟩
          · rw [if_neg hrl] at h0 ⊢
            rcases do_cases (room := room) (size := size) (s := b.1) (r := purR 1 now (rollF x)) with ⟨e1, _⟩ | ⟨e1, _, _, e3⟩
            · rw [if_pos e1] at h0; exact absurd h0 e1
            · rw [if_neg (by omega)]
              exact ⟨rfl, rfl, rfl, e3.trans d3, Classical.not_not.1 hch⟩

theorem check_now {p : Pl} {now later : Int} {x : Po} (h : checkP p now x = 0) (hl : 0 ≤ later ∧ later ≤ far) : checkP p later x = 0 := by
  unfold checkP at h ⊢
  split at h
  · cases h
  · rename_i h1
    rw [if_neg (by omega)]
    exact h

theorem check_out {p : Pl} {now : Int} {x : Po} (h : now < 0 ∨ far < now) : checkP p now x = 1 := by
  unfold checkP
  rw [if_pos (by omega)]

/-- The second one. -/
theorem pub_second {p : Pl} {room size now later : Int} {x : Po} {s : Sm} (hw : 0 ≤ p.win) (hi : s.ids = idsP [] now 1 x) (hl : s.v.last = 1) (hc : checkP p now x = 0) (hr : 0 ≤ later ∧ later ≤ far) :
    (x.id ≠ [] ∧ 0 < p.win ∧ later - p.win ≤ now → (pubP p room size later x s).2 = ⟨1, true, 0⟩ ∧ (pubP p room size later x s).1 = s) ∧
    (¬ (x.id ≠ [] ∧ 0 < p.win ∧ later - p.win ≤ now) → (pubP p room size later x s).2.again = false ∧ ((pubP p room size later x s).2.er ≠ 0 ∨ (pubP p room size later x s).2.n = 2)) := by
  have hc2 := check_now hc hr
  refine ⟨fun ⟨h1, h2, h3⟩ => ?_, fun h => ?_⟩
  · have hk : knownP p s.ids later x.id = 1 := by
      unfold knownP
      rw [hi, if_neg (fun e => e.elim h1 fun e => by omega)]
      unfold idsP
      rw [if_neg h1]
      have : hitP p later x.id ⟨x.id, now, 1⟩ = true := by unfold hitP; simp; omega
      simp [this]
    unfold pubP
    rw [if_neg (by omega), hk, if_pos (by omega)]
    exact ⟨rfl, rfl⟩
  · have hk : knownP p s.ids later x.id = 0 := by
      unfold knownP
      split
      · rfl
      · rename_i h1
        rw [hi]
        unfold idsP
        rw [if_neg (fun e => h1 (.inl e))]
        have : hitP p later x.id ⟨x.id, now, 1⟩ = false := by
          unfold hitP
          simp
          have : ¬ (later - p.win ≤ now) := fun e => h ⟨fun e2 => h1 (.inl e2), by omega, e⟩
          omega
        simp [List.find?, this]
    rcases pub_told p room size later x s with ⟨h1, _, h3⟩ | ⟨_, h2, _⟩ | ⟨_, h2, h3, _⟩
    · exact ⟨h3, .inl h1⟩
    · exfalso
      unfold pubP at h2
      rw [if_neg (by omega), if_neg (by omega)] at h2
      split at h2
      · cases h2
      · split at h2
        · cases h2
        · unfold writeP at h2
          split at h2
          · cases h2
          · unfold rollP at h2
            split at h2
            · cases h2
            · split at h2 <;> cases h2
    · exact ⟨h2, .inr (by rw [h3, hl]; rfl)⟩
end Go.Proofs.YtbgchhgdlceceaaGreatDoor.Strm

namespace Go.Proofs.YtbgchhgdlceceaaGreatDoor.Strm
open Go.RowKit Heap
open Subj (Tok ML err err_wild takes pieces)
open Vlt (store_vlt low_to)
open Sto (sixC fourS cntR Right Counts subjects_any find_row2 tk sorted_nodup StoreAt sumsV sums_any bytesR)
open Idx (Ents findL entV)
open Shf (SortedE)

/-- A post as a value. -/
def postV (x : Po) : Value := .agg #[.string ⟨x.subj.toArray⟩, .string ⟨x.id.toArray⟩, .string ⟨x.head.toArray⟩, .string ⟨x.data.toArray⟩, .int .i64 x.exp, .int .i64 x.roll]

structure PartsP (x : Po) (s i h d : ByteArray) : Prop where
  v : postV x = .agg #[.string s, .string i, .string h, .string d, .int .i64 x.exp, .int .i64 x.roll]
  s1 : (⟨x.subj.toArray⟩ : ByteArray) = s
  h1 : (⟨x.head.toArray⟩ : ByteArray) = h
  d1 : (⟨x.data.toArray⟩ : ByteArray) = d
  s2 : s.data.toList = x.subj
  i2 : i.data.toList = x.id
  h2 : h.data.toList = x.head
  d2 : d.data.toList = x.data
  s3 : s.size = x.subj.length
  i3 : i.size = x.id.length
  h3 : h.size = x.head.length
  d3 : d.size = x.data.length

theorem partsP (x : Po) : ∃ s i h d, PartsP x s i h d := ⟨_, _, _, _, rfl, rfl, rfl, rfl, by simp, by simp, by simp, by simp, by show x.subj.toArray.size = _; simp, by show x.id.toArray.size = _; simp, by show x.head.toArray.size = _; simp, by show x.data.toArray.size = _; simp⟩

structure FitsP (x : Po) : Prop where
  s : x.subj.length ≤ 1048576
  i : x.id.length ≤ 1048576
  h : x.head.length ≤ 1048576
  d : x.data.length ≤ 1048576

theorem find_one {I : Ents} {L : List Rec.Rc} (h : SortedE I) (hc : Counts I L) {s : Tok} (he : err false s = 0) : findL I s = if cntR L s = 0 then [] else [(s, (cntR L s : Int))] := by
  have hf : findL I s = I.filter fun x => x.1 == s := by
    unfold findL
    refine List.filter_congr fun x _ => ?_
    rw [Bool.eq_iff_iff, takes_subj he, beq_iff_eq]
    exact eq_comm
  rw [hf]
  have key : ∀ (J : Ents), (J.map (·.1)).Nodup → ∀ n, (s, n) ∈ J → (J.filter fun x => x.1 == s) = [(s, n)] := by
    intro J
    induction J with
    | nil => intro _ n hn; cases hn
    | cons a J ih =>
      intro hd n hn
      rw [List.map_cons, List.nodup_cons] at hd
      rcases List.mem_cons.1 hn with rfl | hn
      · rw [List.filter_cons, if_pos (by simp)]
        congr 1
        rw [List.filter_eq_nil_iff]
        intro y hy e
        have e : y.1 = s := by simpa using e
        exact hd.1 (by have := List.mem_map_of_mem (f := (·.1)) hy; rw [e] at this; exact this)
      · rw [List.filter_cons, if_neg (by
          intro e
          have e : a.1 = s := by simpa using e
          exact hd.1 (by rw [e]; exact List.mem_map.2 ⟨_, hn, rfl⟩))]
        exact ih hd.2 n hn
  split
  · rename_i h0
    rw [List.filter_eq_nil_iff]
    intro y hy e
    have e : y.1 = s := by simpa using e
    have := (hc y.1 y.2).1 hy
    rw [e] at this
    exact this.2 h0
  · rename_i h0
    exact key I (sorted_nodup h) _ ((hc _ _).2 ⟨rfl, h0⟩)

section
variable {W w : World} {F : Nat → Prop} {K S c : Nat} {room size : Int} {name : ByteArray} {p : Pl} {s : Sm} {x : Po}

set_option maxRecDepth 100000 in
theorem size_any (hx : FitsP x) : Calls Tryz.prog 186 #[postV x] w fun e w' => e = .returned (.int .i64 (sizeP x : Nat)) ∧ Below w.heap.size w w' := by
  obtain ⟨sb, ib, hb, db, hp⟩ := partsP x
  rw [hp.v]
  have hz : (sizeP x : Int) = (sb.size : Int) + hb.size + db.size := by unfold sizeP; rw [hp.s3, hp.h3, hp.d3]; omega
  have hs : sb.size ≤ 1048576 ∧ hb.size ≤ 1048576 ∧ db.size ≤ 1048576 := by rw [hp.s3, hp.h3, hp.d3]; exact ⟨hx.s, hx.h, hx.d⟩
  rw [hz]
  obtain ⟨w1, hw1⟩ : ∃ w1, w1 = w.alloc (.cells #[.string sb, .string ib, .string hb, .string db, .int .i64 x.exp, .int .i64 x.roll] 112) := ⟨_, rfl⟩
  have hb1 : Below w.heap.size w w1 := by rw [hw1]; exact (Below.refl _ _).alloc (Nat.le_refl _) _
  have he1 : w1.heap[w.heap.size]? = some (.cells #[.string sb, .string ib, .string hb, .string db, .int .i64 x.exp, .int .i64 x.roll] 112 (0, 0)) := by rw [hw1]; exact heap_alloc_new w _
  obtain ⟨bx, hbx⟩ : ∃ bx, w.heap.size = bx := ⟨_, rfl⟩
  rw [hbx] at he1
  obtain ⟨q0, q1, q2, q3, q4, q5⟩ := sixC he1
  have hbl := heap_lt he1
  have hw2 : IntKind.i64.wrap ((sb.size : Int) + hb.size) = (sb.size : Int) + hb.size := IntWalk.i64_in _ (by omega)
  have hw3 : IntKind.i64.wrap ((sb.size : Int) + hb.size + db.size) = (sb.size : Int) + hb.size + db.size := IntWalk.i64_in _ (by omega)
  have HB1 := Lib.hid hb1; have HBX := Lib.hid hbx
  clear hb1 he1 hbx hp hz hx
  go_enter Tryz.func186, Tryz.ntmps186
  go_upto_region 1 with fail
  rw [← hw1, HBX.out]
  clear hw1
  go_wp2_with fail
  go_ret
  exact ⟨rfl, HB1.out⟩

set_option maxHeartbeats 2000000 in
set_option maxRecDepth 100000 in
theorem many_any (h : SmAt W F K S c room size name p s w) (hc : 16 * c ≤ 80000) (hm : ML W) (hx : FitsP x) (he : err false x.subj = 0) :
    Calls Tryz.prog 220 #[.pointer (some ⟨K, 0, none⟩), postV x] w fun e w' => e = .returned (.int .i64 (cntR s.v.L x.subj : Nat)) ∧ Below w.heap.size w w' := by
  obtain ⟨sb, ib, hb, db, hp⟩ := partsP x
  rw [hp.v]
  have hsz : sb.size ≤ 1048576 := by rw [hp.s3]; exact hx.s
  have het : err true sb.data.toList = 0 := by rw [hp.s2]; exact err_wild x.subj he
  obtain ⟨n, hn⟩ : ∃ n, cntR s.v.L x.subj = n := ⟨_, rfl⟩
  rw [hn]
  obtain ⟨w1, hw1⟩ : ∃ w1, w1 = w.alloc (.cells #[.string sb, .string ib, .string hb, .string db, .int .i64 x.exp, .int .i64 x.roll] 112) := ⟨_, rfl⟩
  have hb1 : Below w.heap.size w w1 := by rw [hw1]; exact (Below.refl _ _).alloc (Nat.le_refl _) _
  have he1 : w1.heap[w.heap.size]? = some (.cells #[.string sb, .string ib, .string hb, .string db, .int .i64 x.exp, .int .i64 x.roll] 112 (0, 0)) := by rw [hw1]; exact heap_alloc_new w _
  obtain ⟨bx, hbx⟩ : ∃ bx, w.heap.size = bx := ⟨_, rfl⟩
  rw [hbx] at he1
  have h1 := h.low hb1
  obtain ⟨FV, V, D, G, vf, vi, hP, _⟩ := h1.ex
  have HST := Lib.hid (show ∀ w', Below w1.heap.size w1 w' → Calls Tryz.prog 120 #[.pointer (some ⟨V, 0, none⟩)] w' fun e w'' => e = .returned (.pointer (some ⟨S, 0, none⟩)) ∧ w' = w'' from fun w' hb => store_vlt (hP.vlt.low hb))
  have HSU := Lib.hid (show ∀ w', Below w1.heap.size w1 w' → Calls Tryz.prog 63 #[.pointer (some ⟨S, 0, none⟩), .string sb] w' fun e w'' => ∃ v, e = .returned (.tuple #[v, .int .i64 (0 : Nat)]) ∧ Below w'.heap.size w' w'' ∧ ∃ R : Ents, R = (if n = 0 then [] else [(x.subj, (n : Int))]) ∧ Row w'' 124 2 v R.length (entV R) from fun w' hb => by
    obtain ⟨F2, hst⟩ := (h1.low hb).st
    obtain ⟨I, hR, hc2⟩ := subjects_any hst hc hm sb hsz
    refine hc2.mono fun e w'' hp2 => ?_
    obtain ⟨v, h1, h2, R, h3, h4⟩ := find_row2 hp2
    rw [het] at h1
    refine ⟨v, h1, h2, R, ?_, h4⟩
    rw [h3, if_pos het, hp.s2, find_one hR.sorted hR.count he, hn])
  have HSS := Lib.hid (show ∀ w', Below w1.heap.size w1 w' → w'.cell? ⟨K, 10, none⟩ = some (.pointer (some ⟨V, 0, none⟩)) ∧ w'.cell? ⟨bx, 0, none⟩ = some (.string sb) from fun w' hb => by
    obtain ⟨_, _, _, _, _, _, _, _, c10, _, _⟩ := (hP.low hb).cells
    have he2 := (hb.block bx (heap_lt he1)).trans he1
    obtain ⟨q0, _⟩ := sixC he2
    exact ⟨c10, q0⟩)
  have HB1 := Lib.hid hb1; have HBX := Lib.hid hbx
  have hbd : Below w1.heap.size w1 w1.drew := (Below.refl _ _).drew
  clear h hb1 he1 hbx h1 hP hm hx he hp het hn hc hsz
  go_enter Tryz.func220, Tryz.ntmps220
  go_upto_region 1 with fail
  rw [← hw1, HBX.out]
  clear hw1
  go_region_held3 (fun w' => w'.cell? ⟨K, 10, none⟩ = some (.pointer (some ⟨V, 0, none⟩)) ∧ w'.cell? ⟨bx, 0, none⟩ = some (.string sb)) (first | (with_reducible exact HSS.out _ (Below.refl _ _)) | (with_reducible exact HSS.out _ hbd) | (with_reducible exact HSS.out _ (by assumption)) | go_keep)
    (first
      | (go_at_call 120; ((refine (HST.out _ (by first | assumption | exact Below.refl _ _)).mono ?_); rintro e w' ⟨rfl, rfl⟩))
      | (go_at_call 63; ((refine (HSU.out _ (by first | assumption | exact Below.refl _ _)).mono ?_); rintro e w2 ⟨v2, rfl, hb2, R, hR, hr2⟩; have hb2' := low_to (w0 := w1) (by first | assumption | exact Below.refl _ _) hb2; clear hb2)))
  have HB2 := Lib.hid (HB1.out.trans (hb2'.mono HB1.out.size))
  clear hb2' hbd HST HSU HSS
  obtain ⟨a2, n2, rfl⟩ := hr2.slice
  by_cases h0 : n = 0
  · rw [if_pos h0] at hR
    subst hR h0
    clear hr2
    simp only [List.length_nil]
    go_wp2_with fail
    go_ret
    exact ⟨rfl, HB2.out⟩
  · rw [if_neg h0] at hR
    subst hR
    simp only [List.length_cons, List.length_nil, Nat.zero_add] at hr2 ⊢
    rcases hr2.2 with ⟨_, h0'⟩ | ⟨g, off, cap, cur, e, _⟩
    · omega
    obtain ⟨rfl, rfl⟩ : a2 = some ⟨g, off, none⟩ ∧ n2 = cap := by simp at e; exact e
    have hce : w2.cell? ⟨g, off + 1, none⟩ = some (.int .i64 n) := (hr2.cell 1 (by omega)).1
    clear e hr2
    go_wp2_with fail
    go_ret
    exact ⟨rfl, HB2.out⟩
end
end Go.Proofs.YtbgchhgdlceceaaGreatDoor.Strm
