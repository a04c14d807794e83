/- The checked program as the code sees it. -/
import Derived.Test.Qxb6500277aGreatGP17
import Derived.Test.Qxb6500277aGreatCB4
namespace Go.Proofs.Qxb6500277aGreat
open Go Go.RowKit

/-- The functions of a checked program. -/
def mkF (X : Cx) (lim : List (Nat × Nat)) : Nat → Nat → List Fnc → List Fi
  | _, _, [] => []
  | cur, b, f :: r => ⟨(fAt X.fs cur).pi, (fAt X.fs cur).pr, (lAt lim cur).1, (lAt lim cur).2, (fAt X.fs cur).ret, b + f.ps.length, f.ss⟩ :: mkF X lim (cur + 1) (b + szF f) r
def mkP (X : Cx) (s : Ck) (gs : List Fnc) (inp : List Int) : Pg := ⟨s.ty, s.rf, mkF X s.lim 0 0 gs, inp⟩
theorem mkF_len (X : Cx) (lim : List (Nat × Nat)) : ∀ (gs : List Fnc) (cur b : Nat), (mkF X lim cur b gs).length = gs.length
  | [], _, _ => rfl
  | f :: r, cur, b => by simp [mkF, mkF_len X lim r]
/-- What the check of a function gives. -/
def FnG (P : Pg) (X : Cx) (lim : List (Nat × Nat)) : Nat → Nat → List Fnc → Prop
  | _, _, [] => True
  | cur, b, f :: r => (cI (f.ps.map (·.t)) ≤ (lAt lim cur).1 ∧ cR (f.ps.map (·.t)) ≤ (lAt lim cur).2 ∧ WtSs P (lAt lim cur).1 (lAt lim cur).2 (fAt X.fs cur).ret (b + f.ps.length) f.ss) ∧ FnG P X lim (cur + 1) (b + szF f) r
structure Kf (cur b n : Nat) (s s' : Ck) : Prop where
  ty : ∀ x, x < b ∨ b + n ≤ x → s'.ty[x]? = s.ty[x]?
  rf : ∀ x, x < b ∨ b + n ≤ x → s'.rf[x]? = s.rf[x]?
  lm : ∀ j, j < cur → lAt s'.lim j = lAt s.lim j
  ll : s.lim.length ≤ s'.lim.length
  tl : s'.ty.length = s.ty.length
  rl : s'.rf.length = s.rf.length
theorem ckP_lim {cur : Nat} : ∀ (ps : List Prm) (y : Nat) (a : Ck) (z : Unit) (c : Ck), ckP cur y ps a = .ok z c → c.lim.length = a.lim.length
  | [], y, a, z, c, hc => by simp only [ckP] at hc; injection hc with _ hc; rw [← hc]
  | p :: ps, y, a, z, c, hc => by
    simp only [ckP] at hc
    obtain ⟨_, u, k1, k2⟩ := Rc.bind_eq hc
    have e0 := (mayD_eq k1).1
    subst e0
    rw [ckP_lim ps _ _ _ _ k2]
    unfold decl
    split <;> simp
theorem ckF_lim {X : Cx} {cur b : Nat} {f : Fnc} {s : Ck} {x : Unit} {s' : Ck} (h : ckF X cur b f s = .ok x s') (ho : OkF f) : s'.lim.length = s.lim.length := by
  unfold ckF at h
  obtain ⟨_, u1, g1, g2⟩ := Rc.bind_eq h
  obtain ⟨_, u2, g3, g4⟩ := Rc.bind_eq g2
  injection g4 with _ g4
  subst g4
  obtain ⟨_, u3, g5, rfl⟩ := inB_in g3
  have e1 : u3.lim.length = u1.lim.length := (keepSs X cur f.ss (tySs_of f.ss _ ho.2.2) _ _ _ _ g5).1.lim
  have e2 : u1.lim.length = (fresh0 s).lim.length := ckP_lim _ _ _ _ _ g1
  exact e1.trans e2
theorem ckFs_keep {X : Cx} : ∀ (gs : List Fnc) (cur b : Nat) (s : Ck) (x : Unit) (s' : Ck), ckFs X cur b gs s = .ok x s' → (∀ f ∈ gs, OkF f) → (∀ f ∈ gs, NmSs f.ss) → cur + gs.length ≤ s.lim.length → (∀ f ∈ gs, True) → Kf cur b (szFs gs) s s'
  | [], cur, b, s, x, s', h, _, _, _, _ => by
    simp only [ckFs] at h
    injection h with _ h
    subst h
    exact ⟨fun _ _ => rfl, fun _ _ => rfl, fun _ _ => rfl, Nat.le_refl _, rfl, rfl⟩
  | f :: r, cur, b, s, x, s', h, ho, hn, hl, _ => by
    simp only [ckFs] at h
    simp only [List.length_cons] at hl
    obtain ⟨_, s1, h1, h2⟩ := Rc.bind_eq h
    have q := ckF_all (P := ⟨[], [], [], []⟩) h1 (ho f (by simp)) (hn f (by simp)) (by omega)
    have hll := ckF_lim h1 (ho f (by simp))
    have k := ckFs_keep r (cur + 1) (b + szF f) s1 x s' h2 (fun g hg => ho g (by simp [hg])) (fun g hg => hn g (by simp [hg])) (by omega) (fun _ _ => trivial)
    refine ⟨fun y hy => (k.ty y ?_).trans (q.kx.ty y ?_), fun y hy => (k.rf y ?_).trans (q.kx.rf y ?_), fun j hj => (k.lm j (by omega)).trans (q.lo j (by omega)), by have := k.ll; omega, k.tl.trans q.kx.tl, k.rl.trans q.kx.rl⟩
    all_goals (simp only [szFs] at hy; omega)
theorem ckFs_all {P : Pg} {X : Cx} (hX : PX P X) : ∀ (gs : List Fnc) (cur b : Nat) (s : Ck) (x : Unit) (s' : Ck), ckFs X cur b gs s = .ok x s' → (∀ f ∈ gs, OkF f) → (∀ f ∈ gs, NmSs f.ss) → cur + gs.length ≤ s.lim.length → Inn s b (szFs gs) → Ag P s' b (szFs gs) → FnG P X s'.lim cur b gs
  | [], cur, b, s, x, s', _, _, _, _, _, _ => trivial
  | f :: r, cur, b, s, x, s', h, ho, hn, hl, hi, ha => by
    simp only [ckFs] at h
    simp only [List.length_cons] at hl
    simp only [szFs] at hi ha
    obtain ⟨_, s1, h1, h2⟩ := Rc.bind_eq h
    have q := ckF_all (P := P) h1 (ho f (by simp)) (hn f (by simp)) (by omega)
    have hll : cur + 1 + r.length ≤ s1.lim.length := by rw [ckF_lim h1 (ho f (by simp))]; omega
    have k := ckFs_keep r (cur + 1) (b + szF f) s1 x s' h2 (fun g hg => ho g (by simp [hg])) (fun g hg => hn g (by simp [hg])) hll (fun _ _ => trivial)
    have hlim := k.lm cur (by omega)
    simp only [FnG]
    refine ⟨?_, ckFs_all hX r (cur + 1) (b + szF f) s1 x s' h2 (fun g hg => ho g (by simp [hg])) (fun g hg => hn g (by simp [hg])) hll ⟨by rw [q.kx.tl]; have := hi.ty; omega, by rw [q.kx.rl]; have := hi.rf; omega⟩ (ag_right ha)⟩
    rw [hlim]
    exact ⟨q.pi, q.pr, q.wt hX (sub_ag ha (by omega) (by omega) fun y _ y2 => ⟨k.ty y (by omega), k.rf y (by omega)⟩) (hi.sub (by omega))⟩
theorem FnG.get {P : Pg} {X : Cx} {lim : List (Nat × Nat)} : ∀ (gs : List Fnc) (cur b i : Nat), FnG P X lim cur b gs → HdsAt X b cur gs → (∀ j, j < X.fs.length → (fAt X.fs j).pi = cI (pAt X.pt j) ∧ (fAt X.fs j).pr = cR (pAt X.pt j)) → i < gs.length → ∃ F : Fi, (mkF X lim cur b gs)[i]? = some F ∧ F.pi ≤ F.li ∧ F.pr ≤ F.lr ∧ WtSs P F.li F.lr F.ret F.bb F.ss ∧ F.pi = cI (pAt X.pt (cur + i)) ∧ F.pr = cR (pAt X.pt (cur + i)) ∧ F.ret = (fAt X.fs (cur + i)).ret
  | [], _, _, _, _, _, _, h => by simp at h
  | f :: r, cur, b, 0, hg, hh, hx, _ => by
    simp only [FnG] at hg
    simp only [HdsAt] at hh
    obtain ⟨⟨g1, g2, g3⟩, _⟩ := hg
    obtain ⟨x1, x2⟩ := hx cur hh.1
    refine ⟨_, rfl, ?_, ?_, g3, x1, x2, rfl⟩
    · simp only []; rw [x1, hh.2.2.2.2.1]; exact g1
    · simp only []; rw [x2, hh.2.2.2.2.1]; exact g2
  | f :: r, cur, b, i + 1, hg, hh, hx, hi => by
    simp only [FnG] at hg
    simp only [HdsAt] at hh
    obtain ⟨F, q⟩ := FnG.get r (cur + 1) (b + szF f) i hg.2 hh.2.2.2.2.2 hx (by simpa using hi)
    refine ⟨F, ?_⟩
    rw [show cur + (i + 1) = cur + 1 + i by omega]
    exact q
end Go.Proofs.Qxb6500277aGreat
