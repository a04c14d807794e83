/- Types and slots: every checked expression. -/
import Derived.Test.Qxb6500277aGreatGP14
namespace Go.Proofs.Qxb6500277aGreat
open Go Go.RowKit

section
variable {P : Pg} {X : Cx} {s s1 s2 s' : Ck} {b n m : Nat} {u t : Int}
theorem ag_un (hn : note (b + n) u s1 = .ok t s') (h : Ag P s' b (n + 1)) : Ag P s1 b n ∧ (b + n < s1.ty.length → tyA P (b + n) = t) := by
  obtain ⟨e, rfl⟩ := note_eq hn
  refine ⟨sub_ag h (by omega) (by omega) fun x h1 h2 => ⟨?_, rfl⟩, fun hl => ag_ty h (by omega) (by omega) ?_⟩
  · show (s1.ty.set (b + n) u)[x]? = _
    rw [List.getElem?_set_ne (by omega)]
  · show (s1.ty.set (b + n) u)[b + n]? = _
    rw [List.getElem?_set_self hl, e]
theorem ag_left (h : Ag P s2 b (n + m)) (ke : Ke X (b + n) m s1 s2) (ko : Ko (b + n) m s1 s2) : Ag P s1 b n := sub_ag h (by omega) (by omega) fun x _ h2 => ⟨ke.out x (by omega), ko x (by omega)⟩
theorem ag_right (h : Ag P s2 b (n + m)) : Ag P s2 (b + n) m := sub_ag h (by omega) (by omega) fun _ _ _ => ⟨rfl, rfl⟩
end
theorem side_lt (k : Int) : sideT k < 2 := by unfold sideT; split <;> omega
theorem gives_lt (k : Int) : givesT k < 2 := by unfold givesT; split <;> omega
theorem unT_lt (k : Int) : unT k < 2 := by unfold unT; split <;> omega
theorem cI_cons (t : Int) (l : List Int) : cI (t :: l) = (if t < 2 then 1 else 0) + cI l := by
  rw [show t :: l = [t] ++ l from rfl, cI_app, cI_one]
  by_cases h : t < 2
  · rw [if_pos h, if_neg (by omega)]
  · rw [if_neg h, if_pos (by omega)]
theorem cR_cons (t : Int) (l : List Int) : cR (t :: l) = (if t < 2 then 0 else 1) + cR l := by
  rw [show t :: l = [t] ++ l from rfl, cR_app, cR_one]
  by_cases h : t < 2
  · rw [if_pos h, if_neg (by omega)]
  · rw [if_neg h, if_pos (by omega)]
/-- The place of an expression's nodes. -/
structure Inn (s : Ck) (b n : Nat) : Prop where
  ty : b + n ≤ s.ty.length
  rf : b + n ≤ s.rf.length
theorem Inn.keep {s s' : Ck} {b n b' n' : Nat} (h : Inn s b n) (k : Kp s s') (h2 : b' + n' ≤ b + n) : Inn s' b' n' := ⟨by rw [k.tyl]; have := h.ty; omega, by rw [k.rfl']; have := h.rf; omega⟩
mutual
theorem wtE {P : Pg} {X : Cx} {li lr : Nat} (hX : PX P X) : (e : Exp) → ∀ (b : Nat) (s : Ck) (t : Int) (s' : Ck), ckE X b e s = .ok t s' → Good s → Inn s b (szE e) → Ag P s' b (szE e) → s.ni ≤ li → s.nr ≤ lr → NmE e → WtE P li lr b e ∧ tyA P (rtN b e) = t
  | .num v p, b, s, t, s', h, hg, hi, ha, h1, h2, hn => by
    simp only [ckE] at h
    simp only [NmE] at hn
    have q := (ag_un (n := 0) h ha).2 (by have := hi.ty; simp only [szE] at this; omega)
    have e := (note_eq h).1
    simp only [WtE]
    exact ⟨⟨by rw [show tyA P b = t from q, e]; omega, hn⟩, q⟩
  | .boo v p, b, s, t, s', h, hg, hi, ha, h1, h2, hn => by
    simp only [ckE] at h
    simp only [NmE] at hn
    have q := (ag_un (n := 0) h ha).2 (by have := hi.ty; simp only [szE] at this; omega)
    have e := (note_eq h).1
    simp only [WtE]
    exact ⟨⟨by rw [show tyA P b = t from q, e]; omega, by omega, by omega⟩, q⟩
  | .rd p, b, s, t, s', h, hg, hi, ha, h1, h2, hn => by
    simp only [ckE] at h
    have q := (ag_un (n := 0) h ha).2 (by have := hi.ty; simp only [szE] at this; omega)
    have e := (note_eq h).1
    simp only [WtE]
    exact ⟨by rw [show tyA P b = t from q, e]; omega, q⟩
  | .var nm p, b, s, t, s', h, hg, hi, ha, h1, h2, hn => by
    simp only [ckE] at h
    have hty := hi.ty
    have hrf := hi.rf
    simp only [szE] at hty hrf
    split at h
    · cases h
    · rename_i i hf
      have q := (ag_un (n := 0) h ha).2 (by show b + 0 < s.ty.length; omega)
      have e := (note_eq h).1
      have hil := (lst_some hf).1
      have hr : rfA P b = (vAt s.vs i).slot := by
        have := ag_rf (t := (vAt s.vs i).slot) ha (x := b) (by omega) (by simp [szE]) (by
          obtain ⟨_, rfl⟩ := note_eq h
          show (s.rf.set b _)[b]? = _
          rw [List.getElem?_set_self (by omega)])
        simpa using this
      have hs := hg.slot_lt hil
      simp only [WtE]
      refine ⟨?_, q⟩
      rw [show tyA P b = t from q, e, hr]
      split at hs
      · rename_i hc; rw [if_pos hc]; omega
      · rename_i hc; rw [if_neg hc]; omega
  | .call nm p gs, b, s, t, s', h, hg, hi, ha, h1, h2, hn => by
    simp only [ckE] at h
    simp only [NmE] at hn
    have hty := hi.ty
    have hrf := hi.rf
    simp only [szE] at hty hrf
    split at h
    · cases h
    · rename_i f hf
      obtain ⟨ts, s1, g1, g2⟩ := Rc.bind_eq h
      obtain ⟨c1, c2, c3⟩ := callT_eq g2
      have hfl := (lst_some hf).1
      have kp := (keepEs X gs b s ts s1 g1).1.k
      have hA1 : Ag P s1 b (szEs gs) := by
        obtain ⟨_, rfl⟩ := note_eq c3
        refine sub_ag ha (by omega) (by simp only [szE]; omega) fun x x1 x2 => ⟨?_, ?_⟩
        · show (s1.ty.set (b + szEs gs) _)[x]? = _
          rw [List.getElem?_set_ne (by omega)]
        · show (s1.rf.set (b + szEs gs) _)[x]? = _
          rw [List.getElem?_set_ne (by omega)]
      obtain ⟨w1, w2, w3⟩ := wtEs hX gs b s ts s1 g1 hg ⟨by omega, by omega⟩ hA1 h1 h2 hn
      have htx := oddA_eq ts _ c1 c2
      have hr : rfA P (b + szEs gs) = f := by
        have := ag_rf (t := f) ha (x := b + szEs gs) (by omega) (by simp only [szE]; omega) (by
          obtain ⟨_, rfl⟩ := note_eq c3
          show (s1.rf.set (b + szEs gs) _)[b + szEs gs]? = _
          rw [List.getElem?_set_self (by rw [kp.rfl']; omega)])
        simpa using this
      have hq := (note_eq c3).1
      have hroot : tyA P (b + szEs gs) = t := ag_ty ha (by omega) (by simp only [szE]; omega) (by
        obtain ⟨e, rfl⟩ := note_eq c3
        show (s1.ty.set (b + szEs gs) _)[b + szEs gs]? = _
        rw [List.getElem?_set_self (by rw [kp.tyl]; omega), e])
      obtain ⟨p1, p2, p3⟩ := hX.f f hfl
      rw [rt_call]
      simp only [WtE]
      rw [hr, hroot]
      exact ⟨⟨w1, by rw [hX.len]; exact hfl, by rw [w2, htx, p1], by rw [w3, htx, p2], by rw [p3, hq]⟩, rfl⟩
  | .idx p a c, b, s, t, s', h, hg, hi, ha, h1, h2, hn => by
    simp only [ckE] at h
    simp only [NmE] at hn
    have hty := hi.ty
    simp only [szE] at hty ha hi
    obtain ⟨u, s1, g1, g2⟩ := Rc.bind_eq h
    split at g2
    · cases g2
    · rename_i hu
      obtain ⟨u2, s2, g3, g4⟩ := Rc.bind_eq g2
      obtain ⟨_, s3, g5, g6⟩ := Rc.bind_eq g4
      obtain ⟨e2, rfl⟩ := isT_eq g5
      have k1 := keepE X a b s u s1 g1
      have k2 := keepE X c (b + szE a) s1 u2 _ g3
      obtain ⟨ha2, hr⟩ := ag_un (n := szE a + szE c) (by rw [← Nat.add_assoc]; exact g6) ha
      obtain ⟨w1, v1⟩ := wtE hX a b s u s1 g1 hg (hi.keep (.refl s) (by omega)) (ag_left ha2 k2.1 (rfE X c _ s1 u2 _ g3)) h1 h2 hn.1
      obtain ⟨w2, v2⟩ := wtE hX c (b + szE a) s1 u2 _ g3 (hg.keep k1.1.k) (hi.keep k1.1.k (by omega)) (ag_right ha2) (by rw [k1.1.k.ni]; exact h1) (by rw [k1.1.k.nr]; exact h2) hn.2
      have hr' := hr (by rw [k2.1.k.tyl, k1.1.k.tyl]; omega)
      rw [rt_idx]
      simp only [WtE]
      exact ⟨⟨w1, w2, by rw [v1]; omega, by rw [v2, e2]; omega⟩, by rw [Nat.add_assoc]; exact hr'⟩
  | .new ty p e, b, s, t, s', h, hg, hi, ha, h1, h2, hn => by
    simp only [ckE] at h
    simp only [NmE] at hn
    have hty := hi.ty
    simp only [szE] at hty ha hi
    split at h
    · cases h
    · rename_i hu
      obtain ⟨u, s1, g1, g2⟩ := Rc.bind_eq h
      obtain ⟨_, s3, g5, g6⟩ := Rc.bind_eq g2
      obtain ⟨e2, rfl⟩ := isT_eq g5
      have k1 := keepE X e b s u _ g1
      obtain ⟨ha2, hr⟩ := ag_un g6 ha
      obtain ⟨w1, v1⟩ := wtE hX e b s u _ g1 hg (hi.keep (.refl s) (by omega)) ha2 h1 h2 hn
      have hr' := hr (by rw [k1.1.k.tyl]; omega)
      have hq := (note_eq g6).1
      rw [rt_new]
      simp only [WtE]
      exact ⟨⟨w1, by rw [v1, e2]; omega, by rw [hr', hq]; omega⟩, hr'⟩
  | .len p e, b, s, t, s', h, hg, hi, ha, h1, h2, hn => by
    simp only [ckE] at h
    simp only [NmE] at hn
    have hty := hi.ty
    simp only [szE] at hty ha hi
    obtain ⟨u, s1, g1, g2⟩ := Rc.bind_eq h
    split at g2
    · cases g2
    · rename_i hu
      have k1 := keepE X e b s u _ g1
      obtain ⟨ha2, hr⟩ := ag_un g2 ha
      obtain ⟨w1, v1⟩ := wtE hX e b s u _ g1 hg (hi.keep (.refl s) (by omega)) ha2 h1 h2 hn
      have hr' := hr (by rw [k1.1.k.tyl]; omega)
      have hq := (note_eq g2).1
      rw [rt_len']
      simp only [WtE]
      exact ⟨⟨w1, by rw [v1]; omega, by rw [hr', hq]; omega⟩, hr'⟩
  | .un k p e, b, s, t, s', h, hg, hi, ha, h1, h2, hn => by
    simp only [ckE] at h
    simp only [NmE] at hn
    have hty := hi.ty
    simp only [szE] at hty ha hi
    obtain ⟨u, s1, g1, g2⟩ := Rc.bind_eq h
    obtain ⟨_, s3, g5, g6⟩ := Rc.bind_eq g2
    obtain ⟨e2, rfl⟩ := isT_eq g5
    have k1 := keepE X e b s u _ g1
    obtain ⟨ha2, hr⟩ := ag_un g6 ha
    obtain ⟨w1, v1⟩ := wtE hX e b s u _ g1 hg (hi.keep (.refl s) (by omega)) ha2 h1 h2 hn
    have hr' := hr (by rw [k1.1.k.tyl]; omega)
    have hq := (note_eq g6).1
    have hk := unT_lt k
    rw [rt_un]
    simp only [WtE]
    exact ⟨⟨w1, by rw [v1, e2]; omega, by rw [hr', hq]; omega⟩, hr'⟩
  | .bin k p l r, b, s, t, s', h, hg, hi, ha, h1, h2, hn => by
    simp only [ckE] at h
    simp only [NmE] at hn
    have hty := hi.ty
    simp only [szE] at hty ha hi
    have key : ∀ (u u2 g : Int) (s1 s2 : Ck), ckE X b l s = .ok u s1 → ckE X (b + szE l) r s1 = .ok u2 s2 → note (b + szE l + szE r) g s2 = .ok t s' → u < 2 → u2 < 2 → g < 2 → WtE P li lr b (.bin k p l r) ∧ tyA P (rtN b (.bin k p l r)) = t := fun u u2 g s1 s2 g1 g3 g6 l1 l2 l3 => by
      have k1 := keepE X l b s u s1 g1
      have k2 := keepE X r (b + szE l) s1 u2 _ g3
      obtain ⟨ha2, hr⟩ := ag_un (n := szE l + szE r) (by rw [← Nat.add_assoc]; exact g6) ha
      obtain ⟨w1, v1⟩ := wtE hX l b s u s1 g1 hg (hi.keep (.refl s) (by omega)) (ag_left ha2 k2.1 (rfE X r _ s1 u2 _ g3)) h1 h2 hn.1
      obtain ⟨w2, v2⟩ := wtE hX r (b + szE l) s1 u2 _ g3 (hg.keep k1.1.k) (hi.keep k1.1.k (by omega)) (ag_right ha2) (by rw [k1.1.k.ni]; exact h1) (by rw [k1.1.k.nr]; exact h2) hn.2
      have hr' := hr (by rw [k2.1.k.tyl, k1.1.k.tyl]; omega)
      rw [← Nat.add_assoc] at hr'
      have hq := (note_eq g6).1
      rw [rt_bin]
      simp only [WtE]
      exact ⟨⟨w1, w2, by rw [v1]; exact l1, by rw [v2]; exact l2, by rw [hr', hq]; exact l3⟩, hr'⟩
    split at h
    · obtain ⟨u, s1, g1, g2⟩ := Rc.bind_eq h
      split at g2
      · cases g2
      · rename_i hu
        obtain ⟨u2, s2, g3, g4⟩ := Rc.bind_eq g2
        obtain ⟨_, s3, g5, g6⟩ := Rc.bind_eq g4
        obtain ⟨e2, rfl⟩ := isT_eq g5
        exact key u u2 1 s1 _ g1 g3 g6 (by omega) (by omega) (by omega)
    · obtain ⟨u, s1, g1, g2⟩ := Rc.bind_eq h
      obtain ⟨_, s3, g5, g6⟩ := Rc.bind_eq g2
      obtain ⟨e1, rfl⟩ := isT_eq g5
      obtain ⟨u2, s2, g3, g4⟩ := Rc.bind_eq g6
      obtain ⟨_, s4, g7, g8⟩ := Rc.bind_eq g4
      obtain ⟨e2, rfl⟩ := isT_eq g7
      have q1 := side_lt k
      have q2 := gives_lt k
      exact key u u2 (givesT k) _ _ g1 g3 g8 (by omega) (by omega) q2
theorem wtEs {P : Pg} {X : Cx} {li lr : Nat} (hX : PX P X) : (es : Exps) → ∀ (b : Nat) (s : Ck) (ts : List (Int × Int)) (s' : Ck), ckEs X b es s = .ok ts s' → Good s → Inn s b (szEs es) → Ag P s' b (szEs es) → s.ni ≤ li → s.nr ≤ lr → NmEs es → WtEs P li lr b es ∧ cntI P b es = cI (ts.map (·.1)) ∧ cntR P b es = cR (ts.map (·.1))
  | .nil, b, s, ts, s', h, hg, hi, ha, h1, h2, hn => by
    simp only [ckEs] at h
    injection h with h _
    subst h
    exact ⟨by simp only [WtEs], rfl, rfl⟩
  | .cons e es, b, s, ts, s', h, hg, hi, ha, h1, h2, hn => by
    simp only [ckEs] at h
    simp only [NmEs] at hn
    have hty := hi.ty
    simp only [szEs] at hty ha hi
    obtain ⟨u, s1, g1, g2⟩ := Rc.bind_eq h
    obtain ⟨us, s2, g3, g4⟩ := Rc.bind_eq g2
    injection g4 with g4 g5
    subst g4 g5
    have k1 := keepE X e b s u s1 g1
    have k2 := keepEs X es (b + szE e) s1 us _ g3
    obtain ⟨w1, v1⟩ := wtE hX e b s u s1 g1 hg (hi.keep (.refl s) (by omega)) (ag_left ha k2.1 (rfEs X es _ s1 us _ g3)) h1 h2 hn.1
    obtain ⟨w2, v2, v3⟩ := wtEs hX es (b + szE e) s1 us _ g3 (hg.keep k1.1.k) (hi.keep k1.1.k (by omega)) (ag_right ha) (by rw [k1.1.k.ni]; exact h1) (by rw [k1.1.k.nr]; exact h2) hn.2
    refine ⟨by simp only [WtEs]; exact ⟨w1, w2⟩, ?_, ?_⟩
    · simp only [cntI, List.map_cons]
      rw [cI_cons, v1, v2]
    · simp only [cntR, List.map_cons]
      rw [cR_cons, v1, v3]
end
end Go.Proofs.Qxb6500277aGreat
