/- Types and slots: functions, the program. -/
import Derived.Test.Qxb6500277aGreatGP16
namespace Go.Proofs.Qxb6500277aGreat
open Go Go.RowKit

/-- Another function's most slots stay. -/
def Lo (cur : Nat) (s s' : Ck) : Prop := ∀ j, j ≠ cur → lAt s'.lim j = lAt s.lim j
theorem Lo.trans {cur : Nat} {a b c : Ck} (h : Lo cur a b) (k : Lo cur b c) : Lo cur a c := fun j hj => (k j hj).trans (h j hj)
theorem Lo.kp {cur : Nat} {s s' : Ck} (k : Kp s s') : Lo cur s s' := fun j _ => by rw [k.lim]
theorem lo_decl (cur y : Nat) (nm : ByteArray) (t : Int) (s : Ck) : Lo cur s (decl cur y nm t s) := fun j hj => by
  unfold decl lAt
  split
  · simp [List.getElem?_set_ne (Ne.symm hj)]
  · simp [List.getElem?_set_ne (Ne.symm hj)]
theorem lo_shut {cur : Nat} {u s1 : Ck} (h : Lo cur (openB u) s1) : Lo cur u (shut u s1) := h
mutual
theorem loS (X : Cx) (cur : Nat) : (st : Stm) → ∀ (b : Nat) (s : Ck) (x : Unit) (s' : Ck), ckS X cur b st s = .ok x s' → Lo cur s s'
  | .vd nm p t e, b, s, x, s', h => by
    simp only [ckS] at h
    obtain ⟨_, u, h1, g1⟩ := Rc.bind_eq h
    obtain ⟨_, u2, h2, g2⟩ := Rc.bind_eq g1
    injection g2 with _ g2
    subst g2
    have e0 := (mayD_eq h1).1
    subst e0
    exact (Lo.kp (wantE_eq h2)).trans (lo_decl _ _ _ _ _)
  | .asg p a c, b, s, x, s', h => by
    simp only [ckS] at h
    obtain ⟨t, u, h1, g1⟩ := Rc.bind_eq h
    exact (Lo.kp (keepE X a b s t u h1).1.k).trans (Lo.kp (wantE_eq g1))
  | .iff p e bp ss, b, s, x, s', h => by
    simp only [ckS] at h
    obtain ⟨_, u, h1, g1⟩ := Rc.bind_eq h
    obtain ⟨_, s1, h2, rfl⟩ := inB_in g1
    exact (Lo.kp (wantE_eq h1)).trans (lo_shut (loSs X cur ss _ _ _ _ h2))
  | .ife p e bp ss cp cs, b, s, x, s', h => by
    simp only [ckS] at h
    obtain ⟨_, u, h1, g1⟩ := Rc.bind_eq h
    obtain ⟨_, u2, h2, g2⟩ := Rc.bind_eq g1
    obtain ⟨_, s1, h3, rfl⟩ := inB_in h2
    obtain ⟨_, s2, h4, rfl⟩ := inB_in g2
    exact ((Lo.kp (wantE_eq h1)).trans (lo_shut (loSs X cur ss _ _ _ _ h3))).trans (lo_shut (loSs X cur cs _ _ _ _ h4))
  | .whl p e bp ss, b, s, x, s', h => by
    simp only [ckS] at h
    obtain ⟨_, u, h1, g1⟩ := Rc.bind_eq h
    obtain ⟨_, s1, h2, rfl⟩ := inB_in g1
    exact (Lo.kp (wantE_eq h1)).trans (lo_shut (loSs X cur ss _ _ _ _ h2))
  | .ret p e, b, s, x, s', h => by
    simp only [ckS] at h
    exact Lo.kp (wantE_eq h)
  | .prt p e, b, s, x, s', h => by
    simp only [ckS] at h
    exact Lo.kp (wantE_eq h)
  | .exp e, b, s, x, s', h => by
    simp only [ckS] at h
    obtain ⟨t, u, h1, g1⟩ := Rc.bind_eq h
    injection g1 with _ g1
    subst g1
    exact Lo.kp (keepE X e b s t _ h1).1.k
theorem loSs (X : Cx) (cur : Nat) : (st : Stms) → ∀ (b : Nat) (s : Ck) (x : Unit) (s' : Ck), ckSs X cur b st s = .ok x s' → Lo cur s s'
  | .nil, b, s, x, s', h => by
    simp only [ckSs] at h
    injection h with _ h
    subst h
    exact fun _ _ => rfl
  | .cons y ys, b, s, x, s', h => by
    simp only [ckSs] at h
    obtain ⟨_, u, h1, g1⟩ := Rc.bind_eq h
    exact (loS X cur y _ _ _ _ h1).trans (loSs X cur ys _ _ _ _ g1)
end
theorem ckP_all {cur : Nat} : ∀ (ps : List Prm) (y : Nat) (s : Ck) (x : Unit) (s' : Ck), ckP cur y ps s = .ok x s' → (∀ q ∈ ps, OkP q) →
    Kx cur y ps.length s s' ∧ Lo cur s s' ∧ (Good s → Good s') ∧ s'.vs.map (·.ty) = s.vs.map (·.ty) ++ ps.map (·.t)
  | [], y, s, x, s', h, _ => by
    simp only [ckP] at h
    injection h with _ h
    subst h
    exact ⟨⟨fun _ _ => rfl, fun _ _ => rfl, ⟨Nat.le_refl _, Nat.le_refl _⟩, fun o => o, rfl, rfl⟩, fun _ _ => rfl, fun g => g, by simp⟩
  | q :: r, y, s, x, s', h, hp => by
    simp only [ckP] at h
    obtain ⟨_, u, h1, g1⟩ := Rc.bind_eq h
    have e0 := (mayD_eq h1).1
    subst e0
    obtain ⟨a1, a2, a3, a4⟩ := ckP_all r (y + 1) _ x s' g1 (fun z hz => hp z (by simp [hz]))
    refine ⟨by have := (kx_decl (cur := cur) y q.s q.t u).trans a1; rw [Nat.add_comm] at this; exact this, (lo_decl _ _ _ _ _).trans a2, fun g => a3 (g.decl h1 (hp q (by simp)) rfl rfl rfl rfl), ?_⟩
    rw [a4]
    unfold decl
    split <;> simp
/-- A function's check. -/
structure FnR (P : Pg) (X : Cx) (cur b : Nat) (f : Fnc) (s s' : Ck) : Prop where
  kx : Kx cur b (szF f) s s'
  lo : Lo cur s s'
  pi : cI (f.ps.map (·.t)) ≤ (lAt s'.lim cur).1
  pr : cR (f.ps.map (·.t)) ≤ (lAt s'.lim cur).2
  lt : cur < s.lim.length → cur < s'.lim.length
  wt : PX P X → Ag P s' b (szF f) → Inn s b (szF f) → WtSs P (lAt s'.lim cur).1 (lAt s'.lim cur).2 (fAt X.fs cur).ret (b + f.ps.length) f.ss
theorem ckF_all {P : Pg} {X : Cx} {cur b : Nat} {f : Fnc} {s : Ck} {x : Unit} {s' : Ck} (h : ckF X cur b f s = .ok x s') (ho : OkF f) (hn : NmSs f.ss) (hc : cur < s.lim.length) : FnR P X cur b f s s' := by
  unfold ckF at h
  obtain ⟨_, s1, h1, g1⟩ := Rc.bind_eq h
  obtain ⟨_, s2, h2, g2⟩ := Rc.bind_eq g1
  injection g2 with _ g2
  subst g2
  obtain ⟨_, s3, h3, rfl⟩ := inB_in h2
  obtain ⟨a1, a2, a3, a4⟩ := ckP_all f.ps b (fresh0 s) _ s1 h1 ho.2.1
  have gd1 := a3 (Good.fresh0 s)
  have lm0 : LmOk cur (fresh0 s) := ⟨hc, Nat.zero_le _, Nat.zero_le _⟩
  have lm1 := a1.ok lm0
  have k3 := kxSs X cur f.ss _ _ _ _ h3
  have l3 := loSs X cur f.ss _ _ _ _ h3
  have hty : s1.vs.map (·.ty) = f.ps.map (·.t) := by rw [a4]; simp [fresh0]
  have hni : s1.ni = cI (f.ps.map (·.t)) := by rw [gd1.ni]; unfold cIv; rw [hty]
  have hnr : s1.nr = cR (f.ps.map (·.t)) := by rw [gd1.nr]; unfold cRv; rw [hty]
  have kk : Kx cur b (f.ps.length + szSs f.ss) (fresh0 s) (shut s1 s3) := a1.trans (kx_shut k3)
  have l1 := lm1.i
  have l2 := lm1.r
  have l4 := k3.le
  refine ⟨?_, ?_, ?_, ?_, fun _ => ?_, fun hX ha hi => ?_⟩
  · refine ⟨fun y hy => kk.ty y ?_, fun y hy => kk.rf y ?_, kk.le, fun _ => ⟨(kk.ok lm0).lt, Nat.zero_le _, Nat.zero_le _⟩, kk.tl, kk.rl⟩
    · unfold szF at hy; omega
    · unfold szF at hy; omega
  · intro j hj
    exact (l3 j hj).trans (a2 j hj)
  · rw [← hni]; exact Nat.le_trans l1 l4.1
  · rw [← hnr]; exact Nat.le_trans l2 l4.2
  · exact (kk.ok lm0).lt
  · have hi0 : Inn (fresh0 s) b (szF f) := ⟨hi.ty, hi.rf⟩
    unfold szF at ha hi0
    exact wtSs hX f.ss (tySs_of f.ss _ ho.2.2) hn _ _ _ _ h3 gd1.openB lm1.opn (hi0.kx a1 (by omega)).opn (sub_ag (s := s3) ha (by omega) (by omega) fun _ _ _ => ⟨rfl, rfl⟩) (Nat.le_refl _) (Nat.le_refl _)
end Go.Proofs.Qxb6500277aGreat
