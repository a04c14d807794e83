/- The round trip, plain: parameters, functions, programs. -/
import Derived.Test.Qxb6500280aRT4
namespace Go.Proofs.Qxb6500280a
open Go Go.RowKit

def tPr : List Prm → List Tok
  | [] => []
  | x :: r => tK 23 :: tI x.s :: (tyT x.t ++ tPr r)
def tPs : List Prm → List Tok
  | [] => []
  | x :: r => tI x.s :: (tyT x.t ++ tPr r)
def tF (f : Fnc) : List Tok := tK 3 :: tI f.s :: tK 17 :: (tPs f.ps ++ (tK 18 :: (tyT f.t ++ tBl f.ss)))
def tFs : List Fnc → List Tok
  | [] => []
  | f :: r => tF f ++ tFs r
section
variable {T : List Tok}
theorem hdP_ap (b : Nat) {gs : List Prm} (h : gs ≠ []) (es : List Prm) : hdP b (gs ++ es) = hdP b gs := by
  cases gs with
  | nil => exact absurd rfl h
  | cons => rfl
theorem rdPr : ∀ (es gs : List Prm) (i : Nat) (n0 ns : List Nd), Zq ns (n0 ++ flP n0.length gs) → gs ≠ [] → Mx T i (tPr es ++ [tK 18]) → (∀ x ∈ es, OkP x) → ns.length + es.length ≤ 200 →
    ∃ ms, Zq ms (n0 ++ flP n0.length (gs ++ es)) ∧ EvM T (body T (.parL (hdP n0.length gs) (((n0.length + gs.length : Nat) : Int) - 1)) i ns) (.ok (hdP n0.length gs) (i + (tPr es).length) ms)
  | [], gs, i, n0, ns, hz, hg, hm, ho, hr => by
    simp only [tPr, List.nil_append] at hm
    have k1 := (Mx.hd hm).1
    simp only [tK] at k1
    refine ⟨ns, by rw [List.append_nil]; exact hz, ?_⟩
    rw [body, if_pos k1]
    exact .fin _ _ _
  | x :: es, gs, i, n0, ns, hz, hg, hm, ho, hr => by
    simp only [tPr, List.cons_append, List.append_assoc] at hm
    simp only [List.length_cons] at hr
    obtain ⟨k1, _, _, s1, m1⟩ := Mx.hd hm
    obtain ⟨k2, _, t2, s2, m2⟩ := Mx.hd m1
    obtain ⟨m3, m4⟩ := Mx.app m2
    simp only [tK, tI] at k1 k2 t2
    have hln := hz.len
    simp only [List.length_append, flP_len] at hln
    have hp : 0 < gs.length := by cases gs with
      | nil => exact absurd rfl hg
      | cons => simp
    have hf : ¬ hdP n0.length gs < 0 := by rw [hdP_neg]; exact hg
    have z2 : Zq (setNx (ns ++ [⟨1, -1, -1, -1, -1, x.t, ps T (i + 1), (tk T (i + 1)).text⟩]) (n0.length + gs.length - 1) ns.length) (n0 ++ flP n0.length (gs ++ [x])) := by
      rw [← lk_prm x gs n0 n0.length hg, hln]
      exact Zq.set (hz.app (.one (by simp [zN, t2]))) _ _
    obtain ⟨ms2, z3, h3⟩ := rdPr es (gs ++ [x]) (i + 1 + 1 + (tyT x.t).length) n0 _ z2 (by simp) m4 (fun y hy => ho y (by simp [hy])) (by rw [setNx_len]; simp; omega)
    refine ⟨ms2, by simpa using z3, ?_⟩
    rw [body, if_neg (by rw [k1]; decide)]
    unfold com
    rw [if_pos (by omega), wnt_ok k1, s1, wnt_ok k2, s2, typ_at (ho x (by simp)) m3, put_ok (by omega)]
    unfold lnk
    rw [if_neg hf, show ((((n0.length + gs.length : Nat) : Int)) - 1).toNat = n0.length + gs.length - 1 by omega]
    rw [hdP_ap _ hg, show (((n0.length + (gs ++ [x]).length : Nat) : Int)) - 1 = ((ns.length : Nat) : Int) by simp; omega] at h3
    rw [show i + (tPr (x :: es)).length = i + 1 + 1 + (tyT x.t).length + (tPr es).length by simp only [tPr, List.length_cons, List.length_append]; omega]
    exact evm_call h3
theorem rdPs (es : List Prm) (i : Nat) (ns : List Nd) (hm : Mx T i (tPs es ++ [tK 18])) (ho : ∀ x ∈ es, OkP x) (hr : ns.length + es.length ≤ 200) :
    ∃ ms, Zq ms (ns ++ flP ns.length es) ∧ EvM T (body T (.parL (-1) (-1)) i ns) (.ok (hdP ns.length es) (i + (tPs es).length) ms) := by
  cases es with
  | nil =>
    simp only [tPs, List.nil_append] at hm
    have k1 := (Mx.hd hm).1
    simp only [tK] at k1
    refine ⟨ns, by simp only [flP, List.append_nil]; exact Zq.refl _, ?_⟩
    rw [body, if_pos k1]
    exact .fin _ _ _
  | cons x es =>
    simp only [tPs, List.cons_append, List.append_assoc] at hm
    simp only [List.length_cons] at hr
    obtain ⟨k2, _, t2, s2, m2⟩ := Mx.hd hm
    obtain ⟨m3, m4⟩ := Mx.app m2
    simp only [tI] at k2 t2
    obtain ⟨ms2, z3, h3⟩ := rdPr es [x] (i + 1 + (tyT x.t).length) ns (ns ++ [⟨1, -1, -1, -1, -1, x.t, ps T i, (tk T i).text⟩]) (by simp only [flP]; exact (Zq.refl _).app (.one (by simp [zN, t2]))) (by simp) m4 (fun y hy => ho y (by simp [hy])) (by simp; omega)
    refine ⟨ms2, by simpa using z3, ?_⟩
    rw [body, if_neg (by rw [k2]; decide)]
    unfold com
    rw [if_neg (by omega)]
    show EvM T (wnt T 1 i _) _
    rw [wnt_ok k2, s2, typ_at (ho x (by simp)) m3, put_ok (by omega)]
    unfold lnk
    rw [if_pos (by omega)]
    rw [show (((ns.length + [x].length : Nat) : Int)) - 1 = ((ns.length : Nat) : Int) by simp] at h3
    rw [show i + (tPs (x :: es)).length = i + 1 + (tyT x.t).length + (tPr es).length by simp only [tPs, List.length_cons, List.length_append]; omega]
    simp only [hdP] at h3 ⊢
    exact evm_call h3
theorem rdF (f : Fnc) (i : Nat) (ns : List Nd) (hm : Mx T i (tF f)) (ho : OkF f) (hr : ns.length + szF f ≤ 200) :
    ∃ ms, Zq ms (ns ++ flF ns.length (-1) f) ∧ EvM T (body T .fn i ns) (.ok (rtF ns.length f) (i + (tF f).length) ms) := by
  unfold tF at hm
  unfold szF at hr
  obtain ⟨h1, h2, h3⟩ := ho
  obtain ⟨k1, _, _, s1, m1⟩ := Mx.hd hm
  obtain ⟨k2, _, t2, s2, m2⟩ := Mx.hd m1
  obtain ⟨k3, _, _, s3, m3⟩ := Mx.hd m2
  obtain ⟨m4, m5⟩ := Mx.app m3
  obtain ⟨k6, _, _, s6, m6⟩ := Mx.hd m5
  obtain ⟨m7, m8⟩ := Mx.app m6
  simp only [tK, tI] at k1 k2 t2 k3 k6
  have m4' : Mx T (i + 1 + 1 + 1) (tPs f.ps ++ [tK 18]) := by
    have := Mx.app (T := T) (a := tPs f.ps ++ [tK 18]) (b := tyT f.t ++ tBl f.ss) (i := i + 1 + 1 + 1) (by simpa using m3)
    exact this.1
  obtain ⟨ma, za, ha⟩ := rdPs f.ps (i + 1 + 1 + 1) ns m4' h2 (by omega)
  have hla := za.len
  simp only [List.length_append, flP_len] at hla
  obtain ⟨mb, zb, hb⟩ := (rdSs T f.ss).blk (ns := ma) (d := 0) m8 (by omega) h3 (by omega)
  have hlb := zb.len
  simp only [List.length_append, flB_len] at hlb
  refine ⟨mb ++ [⟨0, hdP ns.length f.ps, ((ma.length + szSs f.ss : Nat) : Int), -1, -1, f.t, ps T (i + 1), (tk T (i + 1)).text⟩], ?_, ?_⟩
  · unfold flF
    rw [← List.append_assoc, ← List.append_assoc]
    refine (zb.trans ?_).app (.one (by simp [zN, hla, t2]))
    rw [hla]
    exact za.app (flB_z _ _ f.bp _)
  · rw [body, wnt_ok k1, s1, wnt_ok k2, s2, wnt_ok k3, s3]
    refine EvM.ok ha ?_
    rw [wnt_ok k6, s6, typ_at h1 m7]
    refine EvM.ok hb ?_
    rw [put_ok (by omega), show rtF ns.length f = ((mb.length : Nat) : Int) by unfold rtF szF; omega, show i + (tF f).length = i + 1 + 1 + 1 + (tPs f.ps).length + 1 + (tyT f.t).length + (tBl f.ss).length by simp only [tF, List.length_cons, List.length_append]; omega]
    exact .fin _ _ _
theorem tF_hd (f : Fnc) : ∃ l, tF f = tK 3 :: l := ⟨_, rfl⟩
theorem hdF_ap (b : Nat) {gs : List Fnc} (h : gs ≠ []) (es : List Fnc) : hdF b (gs ++ es) = hdF b gs := by
  cases gs with
  | nil => exact absurd rfl h
  | cons => rfl
theorem szFs_pos {gs : List Fnc} (h : gs ≠ []) : 0 < szFs gs := by
  cases gs with
  | nil => exact absurd rfl h
  | cons e es => have := szF_pos e; simp [szFs]; omega
theorem rdFs : ∀ (es gs : List Fnc) (la : Int) (i : Nat) (n0 ns : List Nd), Zq ns (n0 ++ flFs n0.length gs) → (gs ≠ [] → la = ((n0.length + szFs gs : Nat) : Int) - 1) → Mx T i (tFs es) → kd T (i + (tFs es).length) = 0 → (∀ x ∈ es, OkF x) → ns.length + szFs es ≤ 200 →
    ∃ ms, Zq ms (n0 ++ flFs n0.length (gs ++ es)) ∧ EvM T (body T (.prog (hdF n0.length gs) la) i ns) (.ok (hdF n0.length (gs ++ es)) (i + (tFs es).length) ms)
  | [], gs, la, i, n0, ns, hz, hg, hm, he, ho, hr => by
    simp only [tFs, List.length_nil, Nat.add_zero] at he ⊢
    refine ⟨ns, by rw [List.append_nil]; exact hz, ?_⟩
    rw [body, if_pos he, List.append_nil]
    exact .fin _ _ _
  | x :: es, gs, la, i, n0, ns, hz, hg, hm, he, ho, hr => by
    simp only [tFs] at hm he
    simp only [szFs] at hr
    obtain ⟨m1, m2⟩ := Mx.app hm
    obtain ⟨l, hl⟩ := tF_hd x
    have k1 : kd T i = 3 := (Mx.hd (hl ▸ m1)).1
    obtain ⟨ma, za, ha⟩ := rdF x i ns m1 (ho x (by simp)) (by omega)
    have hla := za.len
    simp only [List.length_append, flF_len] at hla
    have hln := hz.len
    simp only [List.length_append, flFs_len] at hln
    have e4 : i + (tFs (x :: es)).length = i + (tF x).length + (tFs es).length := by simp only [tFs, List.length_append]; omega
    have he' : kd T (i + (tF x).length + (tFs es).length) = 0 := by rw [← he]; congr 1; simp only [List.length_append]; omega
    by_cases hn : gs = []
    · subst hn
      simp only [szFs, Nat.add_zero] at hln
      obtain ⟨ms2, z3, h3⟩ := rdFs es [x] (rtF ns.length x) (i + (tF x).length) n0 ma (by
        refine za.trans ?_
        simp only [flFs, hdF, List.append_nil] at hz ⊢
        rw [hln]
        exact hz.app (Zq.refl _)) (fun _ => by simp only [szFs, Nat.add_zero]; unfold rtF; rw [hln]) m2 he' (fun y hy => ho y (by simp [hy])) (by omega)
      refine ⟨ms2, by simpa using z3, ?_⟩
      rw [body, if_neg (by rw [k1]; decide)]
      refine EvM.ok ha ?_
      unfold lnk
      rw [if_pos (by simp [hdF]), e4]
      simp only [List.singleton_append, hdF, List.nil_append] at h3 ⊢
      rw [hln] at h3 ⊢
      exact evm_call h3
    · have hp := szFs_pos hn
      have hf : ¬ hdF n0.length gs < 0 := by rw [hdF_neg]; exact hn
      have z2 : Zq (setNx ma (n0.length + szFs gs - 1) (rtF ns.length x)) (n0 ++ flFs n0.length (gs ++ [x])) := by
        rw [← lk_fns x gs n0 n0.length hn, hln]
        refine Zq.set ?_ _ _
        refine za.trans ?_
        rw [hln]
        exact hz.app (Zq.refl _)
      obtain ⟨ms2, z3, h3⟩ := rdFs es (gs ++ [x]) (rtF ns.length x) (i + (tF x).length) n0 _ z2 (fun _ => by rw [szFs_sn]; unfold rtF; rw [hln]; omega) m2 he' (fun y hy => ho y (by simp [hy])) (by rw [setNx_len]; omega)
      refine ⟨ms2, by simpa using z3, ?_⟩
      rw [body, if_neg (by rw [k1]; decide)]
      refine EvM.ok ha ?_
      unfold lnk
      rw [if_neg hf, hg hn, show ((((n0.length + szFs gs : Nat) : Int)) - 1).toNat = n0.length + szFs gs - 1 by omega, e4]
      rw [hdF_ap _ hn] at h3
      rw [List.append_assoc, List.singleton_append] at h3
      exact evm_call h3
theorem Mx.of : ∀ (l : List Tok) (a b : List Tok), (∀ t ∈ l, True) → T.map zT = a ++ l ++ b → b ≠ [] → Mx T a.length l
  | [], a, b, _, h, hb => by
    have := congrArg List.length h
    have hb' : 0 < b.length := List.length_pos_iff.2 hb
    simp at this
    unfold Mx
    omega
  | t :: l, a, b, _, h, hb => by
    have hl := congrArg List.length h
    have hb' : 0 < b.length := List.length_pos_iff.2 hb
    simp at hl
    have h2 : Mx T (a ++ [t]).length l := Mx.of l (a ++ [t]) b (fun _ _ => trivial) (by simpa using h) hb
    refine ⟨by omega, ?_, by simpa using h2⟩
    have h3 : (T.map zT)[a.length]? = some t := by rw [h]; simp
    rw [List.getElem?_map] at h3
    unfold tk
    cases ht : T[a.length]? with
    | none => rw [ht] at h3; cases h3
    | some y => rw [ht] at h3; simpa using h3
/-- The printed tokens are read as the tree. -/
theorem read_back {fs : List Fnc} {eo : Tok} (hT : T.map zT = tFs fs ++ [eo]) (h0 : eo.kind = 0) (ho : ∀ f ∈ fs, OkF f) (hr : szFs fs ≤ 200) :
    ∃ j ms, Zq ms (flFs 0 fs) ∧ EvM T (body T (.prog (-1) (-1)) 0 []) (.ok (hdF 0 fs) j ms) := by
  have hm : Mx T 0 (tFs fs) := Mx.of (tFs fs) [] [eo] (fun _ _ => trivial) (by simpa using hT) (by simp)
  have he : kd T (0 + (tFs fs).length) = 0 := by
    have h3 : (T.map zT)[(tFs fs).length]? = some eo := by rw [hT]; simp
    rw [List.getElem?_map] at h3
    unfold kd tk
    rw [Nat.zero_add]
    cases ht : T[(tFs fs).length]? with
    | none => rw [ht] at h3; cases h3
    | some y => rw [ht] at h3; simp at h3; simp; rw [← h0, ← h3]; rfl
  obtain ⟨ms, hz, h⟩ := rdFs fs [] (-1) 0 [] [] (by simp [flFs]; exact Zq.refl _) (fun h => absurd rfl h) hm he ho (by simpa using hr)
  exact ⟨_, ms, by simpa using hz, by simpa [hdF] using h⟩
end
end Go.Proofs.Qxb6500280a
