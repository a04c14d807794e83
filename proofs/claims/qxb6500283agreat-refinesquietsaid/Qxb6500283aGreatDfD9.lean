/- The cache, plainly. -/
import Derived.Test.Qxb6500283aGreatDfD8
namespace Go.Proofs.Qxb6500283aGreat
open Go Go.RowKit

structure GoodD (p : List In) (S : Nat) : Prop where
  lt : S < 18446744073709551616
  inn : ∀ q, S.testBit q = true → q < p.length
  zero : S.testBit 0 = true
  cl : ∀ q r, S.testBit q = true → eps p false false q r → S.testBit r = true
structure CInvD (p : List In) (s : DS) : Prop where
  used : s.used ≤ 6
  good : ∀ c, c < s.used → GoodD p (s.keys c)
  kz : ∀ c, s.used ≤ c → c < 6 → s.keys c = 0
  kd : ∀ c d, c < s.used → d < s.used → s.keys c = s.keys d → c = d
  nlo : ∀ o, o < 1536 → -1 ≤ s.next o ∧ s.next o < s.used
  nz : ∀ c b, s.used ≤ c → c < 6 → b < 256 → s.next (c * 256 + b) = -1
  ns : ∀ c b, c < s.used → b < 256 → 0 ≤ s.next (c * 256 + b) → IsStep p (s.keys c) b (s.keys (s.next (c * 256 + b)).toNat)
  mC : IsMask p s.chars 0
  mE : IsMask p s.ends 5
  mH : IsMask p s.hits 6
theorem CInvD.congr {p : List In} {s t : DS} (h : CInvD p s) (h1 : t.used = s.used) (h2 : t.keys = s.keys) (h3 : t.next = s.next) (h4 : t.chars = s.chars) (h5 : t.ends = s.ends) (h6 : t.hits = s.hits) : CInvD p t := by
  obtain ⟨kept, chars, ends, hits, keys, used, next, stk, built, flushes, worked⟩ := t
  simp only at h1 h2 h3 h4 h5 h6
  subst h1 h2 h3 h4 h5 h6
  exact ⟨h.used, h.good, h.kz, h.kd, h.nlo, h.nz, h.ns, h.mC, h.mE, h.mH⟩
theorem eps_ff {p : List In} {b e : Bool} {q r : Nat} (h : eps p false false q r) : eps p b e q r := by
  obtain ⟨x, hx, h⟩ := h
  refine ⟨x, hx, ?_⟩
  rcases h with h | h | h | h | h
  · exact .inl h
  · exact .inr (.inl h)
  · exact .inr (.inr (.inl h))
  · exact absurd h.2.1 (by simp)
  · exact absurd h.2.1 (by simp)
theorem good_clo {p : List In} {b e : Bool} {A : Nat → Prop} {S : Nat} (hl : S < 18446744073709551616) (h : ∀ q, S.testBit q = true ↔ Clo p b e A q) (hi : ∀ q, S.testBit q = true → q < p.length) (h0 : A 0) : GoodD p S :=
  ⟨hl, hi, (h 0).2 (Clo.base h0), fun q r hq hs => (h r).2 (((h q).1 hq).step (eps_ff hs))⟩
theorem IsStep.good {p : List In} (hok : OkProg p) {S c T : Nat} (h : IsStep p S c T) : GoodD p T := good_clo h.1 h.2.1 h.2.2 ⟨hok.pos, .inl rfl⟩

theorem CInvD.flush {p : List In} {s : DS} (h : CInvD p s) : CInvD p (flushD s) := by
  have hu := h.used
  refine ⟨by simp [flushD], fun c hc => by simp [flushD] at hc, fun c _ hc => ?_, fun c d hc => by simp [flushD] at hc, fun o ho => ?_, fun c b _ hc hb => ?_, fun c b hc => by simp [flushD] at hc, h.mC, h.mE, h.mH⟩
  · simp only [flushD]
    split
    · rfl
    · exact h.kz c (by omega) hc
  · simp only [flushD]
    split
    · omega
    · have := h.nz (o / 256) (o % 256) (by omega) (by omega) (by omega)
      rw [show o / 256 * 256 + o % 256 = o by omega] at this
      omega
  · simp only [flushD]
    split
    · rfl
    · exact h.nz c b (by omega) hc hb
theorem CInvD.take {p : List In} {s : DS} (h : CInvD p s) (hu : s.used < 6) {v : Nat} (hv : GoodD p v) (hn : ∀ d, d < s.used → s.keys d ≠ v) : CInvD p (takeD s v) := by
  refine ⟨by simp [takeD]; omega, fun c hc => ?_, fun c hc hc6 => ?_, fun c d hc hd he => ?_, fun o ho => ?_, fun c b hc hc6 hb => ?_, fun c b hc hb hp => ?_, h.mC, h.mE, h.mH⟩
  · simp only [takeD] at hc ⊢
    by_cases e : c = s.used
    · subst e; rw [upd_same]; exact hv
    · rw [upd_other _ _ _ _ e]; exact h.good c (by omega)
  · simp only [takeD] at hc ⊢
    rw [upd_other _ _ _ _ (by omega)]; exact h.kz c (by omega) hc6
  · simp only [takeD] at hc hd he
    by_cases e1 : c = s.used
    · by_cases e2 : d = s.used
      · omega
      · subst e1
        rw [upd_same, upd_other _ _ _ _ e2] at he
        exact absurd he.symm (hn d (by omega))
    · by_cases e2 : d = s.used
      · subst e2
        rw [upd_same, upd_other _ _ _ _ e1] at he
        exact absurd he (hn c (by omega))
      · rw [upd_other _ _ _ _ e1, upd_other _ _ _ _ e2] at he
        exact h.kd c d (by omega) (by omega) he
  · simp only [takeD]
    have := h.nlo o ho
    omega
  · simp only [takeD] at hc ⊢
    exact h.nz c b (by omega) hc6 hb
  · simp only [takeD] at hc hp ⊢
    by_cases e : c = s.used
    · subst e
      have := h.nz s.used b (Nat.le_refl _) hu hb
      omega
    · have h1 := h.ns c b (by omega) hb hp
      have h2 := h.nlo (c * 256 + b) (by omega)
      rw [upd_other _ _ _ _ e, upd_other _ _ _ _ (by omega)]
      exact h1
/-- What a cell's finding leaves. -/
structure CellP (p : List In) (s : DS) (v c : Nat) (s' : DS) : Prop where
  inv : CInvD p s'
  lt : c < s'.used
  key : s'.keys c = v
  wk : s'.worked = s.worked
  b0 : s.built ≤ s'.built
  b1 : s'.built ≤ s.built + 1
  f0 : s.flushes ≤ s'.flushes
  f1 : s'.flushes ≤ s.flushes + 1
  same : s'.flushes = s.flushes → s'.next = s.next ∧ s.used ≤ s'.used ∧ ∀ d, d < s.used → s'.keys d = s.keys d
  led : s'.built + s.used + 6 * s.flushes = s.built + s'.used + 6 * s'.flushes
theorem CellR.p {p : List In} {s s' : DS} {v c : Nat} (h : CInvD p s) (hv : GoodD p v) (hr : CellR s v c s') : CellP p s v c s' := by
  rcases hr with ⟨h1, h2, rfl⟩ | ⟨hn, ⟨h1, rfl, rfl⟩ | ⟨h1, rfl, rfl⟩⟩
  · exact ⟨h, h1, h2, rfl, Nat.le_refl _, by omega, Nat.le_refl _, by omega, fun _ => ⟨rfl, Nat.le_refl _, fun _ _ => rfl⟩, rfl⟩
  · exact ⟨h.take h1 hv hn, by simp [takeD], by simp [takeD, upd_same], rfl, by simp [takeD], by simp [takeD], by simp [takeD], by simp [takeD], fun _ => ⟨rfl, by simp [takeD], fun d hd => by simp only [takeD]; rw [upd_other _ _ _ _ (by omega)]⟩, by simp [takeD]; omega⟩
  · refine ⟨h.flush.take (by simp [flushD]) hv (fun d hd => by simp [flushD] at hd), by simp [takeD, flushD], by simp [takeD, flushD, upd], rfl, by simp [takeD, flushD], by simp [takeD, flushD], by simp [takeD, flushD], by simp [takeD, flushD], fun e => ?_, by simp [takeD, flushD]; omega⟩
    simp [takeD, flushD] at e
structure StepPD (p : List In) (s : DS) (cell b : Nat) (s' : DS) (to : Nat) : Prop where
  inv : CInvD p s'
  lt : to < s'.used
  key : IsStep p (s.keys cell) b (s'.keys to)
  w0 : s.worked ≤ s'.worked
  w1 : s'.worked ≤ s.worked + 1
  b0 : s.built ≤ s'.built
  b1 : s'.built + s.worked ≤ s.built + s'.worked
  f0 : s.flushes ≤ s'.flushes
  f1 : s'.flushes ≤ s.flushes + 1
  led : s'.built + s.used + 6 * s.flushes = s.built + s'.used + 6 * s'.flushes
theorem StepRD.p {p : List In} (hok : OkProg p) {s s' : DS} {cell b to : Nat} (h : CInvD p s) (hc : cell < s.used) (hb : b < 256) (hr : StepRD p s cell b s' to) : StepPD p s cell b s' to := by
  have hu := h.used
  rcases hr with ⟨h1, rfl⟩ | ⟨h1, T, stk', s2, hT, hcr, rfl⟩
  · have h2 := h.ns cell b hc hb (by omega)
    have h3 := h.nlo (cell * 256 + b) (by omega)
    rw [h1] at h2 h3
    exact ⟨h, by omega, h2, Nat.le_refl _, by omega, Nat.le_refl _, by omega, Nat.le_refl _, by omega, rfl⟩
  · have cp := CellR.p (h.congr (t := { s with stk := stk', worked := s.worked + 1 }) rfl rfl rfl rfl rfl rfl) (hT.good hok) hcr
    have c1 := cp.b0; have c2 := cp.b1; have c3 := cp.f0; have c4 := cp.f1; have c5 := cp.wk; have c6 := cp.led; have c7 := cp.lt
    simp only at c1 c2 c3 c4 c5 c6
    by_cases hf : s2.flushes = s.flushes
    · rw [if_pos hf]
      obtain ⟨e1, e2, e3⟩ := cp.same hf
      simp only at e1 e2 e3
      have hk := e3 cell hc
      have hi := cp.inv
      refine ⟨⟨hi.used, hi.good, hi.kz, hi.kd, fun o ho => ?_, fun c d hc' hc6 hd => ?_, fun c d hc' hd hp => ?_, hi.mC, hi.mE, hi.mH⟩, c7, by rw [cp.key]; exact hT, by simp only; omega, by simp only; omega, c1, by simp only; omega, by simp only; omega, by simp only; omega, by simp only; omega⟩
      · simp only [upd]
        split
        · omega
        · exact hi.nlo o ho
      · simp only at hc' ⊢
        rw [upd_other _ _ _ _ (by omega)]
        exact hi.nz c d hc' hc6 hd
      · simp only at hc' hp ⊢
        by_cases e : c * 256 + d = cell * 256 + b
        · have ec : c = cell := by omega
          have ed : d = b := by omega
          subst ec ed
          rw [upd_same]
          simp only [Int.toNat_natCast]
          rw [cp.key, hk]
          exact hT
        · rw [upd_other _ _ _ _ e] at hp ⊢
          exact hi.ns c d hc' hd hp
    · rw [if_neg hf]
      exact ⟨cp.inv, c7, by rw [cp.key]; exact hT, by omega, by omega, c1, by omega, by omega, by omega, c6⟩
end Go.Proofs.Qxb6500283aGreat
