/- The round trip, plain: statements and blocks. -/
import Derived.Test.Qxb6500280aRT3
namespace Go.Proofs.Qxb6500280a
open Go Go.RowKit

mutual
def tS : Stm → List Tok
  | .vd s _ t e => tK 4 :: tI s :: (tyT t ++ (tK 25 :: (tB e ++ [tK 24])))
  | .asg _ a b => tB a ++ (tK 25 :: (tB b ++ [tK 24]))
  | .iff _ e _ b => tK 5 :: (tB e ++ (tK 19 :: (tSs b ++ [tK 20])))
  | .ife _ e _ b _ c => tK 5 :: (tB e ++ ((tK 19 :: (tSs b ++ [tK 20])) ++ (tK 6 :: (tK 19 :: (tSs c ++ [tK 20])))))
  | .whl _ e _ b => tK 7 :: (tB e ++ (tK 19 :: (tSs b ++ [tK 20])))
  | .ret _ e => tK 8 :: (tB e ++ [tK 24])
  | .prt _ e => tK 9 :: (tB e ++ [tK 24])
  | .exp e => tB e ++ [tK 24]
def tSs : Stms → List Tok
  | .nil => []
  | .cons s ss => tS s ++ tSs ss
end
def tBl (ss : Stms) : List Tok := tK 19 :: (tSs ss ++ [tK 20])
def BgS (k : Int) : Prop := k = 4 ∨ k = 5 ∨ k = 7 ∨ k = 8 ∨ k = 9 ∨ Bg k
theorem tS_hd {d : Nat} (s : Stm) (h : OkS d s) : ∃ t l, tS s = t :: l ∧ BgS t.kind := by
  cases s with
  | asg p a b =>
    simp only [OkS] at h
    obtain ⟨t, l, h1, h2, _⟩ := tB_hd a h.2.1
    exact ⟨t, l ++ (tK 25 :: (tB b ++ [tK 24])), by simp only [tS, h1, List.cons_append], by simp [BgS, h2]⟩
  | exp e =>
    simp only [OkS] at h
    obtain ⟨t, l, h1, h2, _⟩ := tB_hd e h
    exact ⟨t, l ++ [tK 24], by simp only [tS, h1, List.cons_append], by simp [BgS, h2]⟩
  | _ => exact ⟨_, _, by simp only [tS]; rfl, by simp [BgS, tK]⟩
def apS : Stms → Stms → Stms
  | .nil, x => x
  | .cons e es, x => .cons e (apS es x)
theorem apS_sn (es : Stms) (e : Stm) (r : Stms) : apS (snS es e) r = apS es (.cons e r) := by
  induction es using Stms.rec (motive_1 := fun _ => True) with
  | nil => rfl
  | cons x es _ ih => simp only [snS, apS, ih]
  | _ => trivial
theorem apS_nil (es : Stms) : apS es .nil = es := by
  induction es using Stms.rec (motive_1 := fun _ => True) with
  | nil => rfl
  | cons x es _ ih => simp only [apS, ih]
  | _ => trivial
theorem hdS_ap (b : Nat) {gs : Stms} (h : gs ≠ .nil) (es : Stms) : hdS b (apS gs es) = hdS b gs := by
  cases gs with
  | nil => exact absurd rfl h
  | cons => rfl
theorem szSs_pos {gs : Stms} (h : gs ≠ .nil) : 0 < szSs gs := by
  cases gs with
  | nil => exact absurd rfl h
  | cons e es => have := szS_pos e; simp [szSs]; omega
section
variable {T : List Tok}
def RdS (T : List Tok) (s : Stm) : Prop := ∀ d i ns, Mx T i (tS s) → OkS d s → ns.length + szS s ≤ 200 → kd T (i + (tS s).length) ≠ 6 → ∃ ms, Zq ms (ns ++ flS ns.length (-1) s) ∧ EvM T (body T (.stmt d) i ns) (.ok (rtS ns.length s) (i + (tS s).length) ms)
def RdSs (T : List Tok) (es : Stms) : Prop := ∀ (gs : Stms) (la : Int) (d i : Nat) (n0 ns : List Nd), Zq ns (n0 ++ flSs n0.length gs) → (gs ≠ .nil → la = ((n0.length + szSs gs : Nat) : Int) - 1) → Mx T i (tSs es ++ [tK 20]) → OkSs (d + 1) es → ns.length + szSs es ≤ 200 →
  ∃ ms, Zq ms (n0 ++ flSs n0.length (apS gs es)) ∧ EvM T (body T (.blkL d (hdS n0.length gs) la) i ns) (.ok (hdS n0.length (apS gs es)) (i + (tSs es).length + 1) ms)
theorem tSs_nx {es : Stms} {d i : Nat} (ho : OkSs d es) (h : Mx T i (tSs es ++ [tK 20])) : kd T i ≠ 6 := by
  cases es with
  | nil => simp only [tSs, List.nil_append] at h; rw [(Mx.hd h).1]; decide
  | cons e es =>
    simp only [OkSs] at ho
    obtain ⟨t, l, h1, h2⟩ := tS_hd e ho.1
    simp only [tSs, h1, List.cons_append] at h
    rw [(Mx.hd h).1]
    unfold BgS Bg at h2
    omega
theorem rdSs_nil : RdSs T .nil := fun gs la d i n0 ns hz hg hm ho hr => by
  simp only [tSs, List.nil_append] at hm
  have k1 := (Mx.hd hm).1
  have s1 := (Mx.hd hm).2.2.2.1
  simp only [tK] at k1
  refine ⟨ns, by rw [apS_nil]; exact hz, ?_⟩
  rw [body, if_pos k1, s1, apS_nil]
  exact .fin _ _ _
theorem rdSs_cons {e : Stm} {es : Stms} (He : RdS T e) (Hs : RdSs T es) : RdSs T (.cons e es) := fun gs la d i n0 ns hz hg hm ho hr => by
  simp only [tSs, List.append_assoc] at hm
  simp only [OkSs] at ho
  simp only [szSs] at hr
  obtain ⟨m2, m3⟩ := Mx.app hm
  obtain ⟨t, l, b1, b2⟩ := tS_hd e ho.1
  have k1 : kd T i = t.kind := (Mx.hd (b1 ▸ m2)).1
  have hln := hz.len
  simp only [List.length_append, flSs_len] at hln
  obtain ⟨ms, z1, h1⟩ := He (d + 1) i ns m2 ho.1 (by omega) (tSs_nx ho.2 m3)
  have hl1 := z1.len
  simp only [List.length_append, flS_len] at hl1
  have e4 : i + (tSs (.cons e es)).length + 1 = i + (tS e).length + (tSs es).length + 1 := by simp only [tSs, List.length_append]; omega
  by_cases hn : gs = .nil
  · subst hn
    simp only [szSs, Nat.add_zero] at hln
    obtain ⟨ms2, z3, h3⟩ := Hs (.cons e .nil) (rtS ns.length e) d (i + (tS e).length) n0 ms (by
      refine z1.trans ?_
      simp only [flSs, hdS, List.append_nil] at hz ⊢
      rw [hln]
      exact hz.app (Zq.refl _)) (fun _ => by simp only [szSs, Nat.add_zero]; unfold rtS; rw [hln]) m3 ho.2 (by omega)
    refine ⟨ms2, by simpa [apS] using z3, ?_⟩
    rw [body, if_neg (by rw [k1]; unfold BgS Bg at b2; omega)]
    refine EvM.ok h1 ?_
    unfold lnk
    rw [if_pos (by simp [hdS]), e4]
    simp only [hdS, apS] at h3 ⊢
    rw [hln] at h3 ⊢
    exact evm_call h3
  · have hp := szSs_pos hn
    have hf : ¬ hdS n0.length gs < 0 := by rw [hdS_neg]; exact hn
    have z2 : Zq (setNx ms (n0.length + szSs gs - 1) (rtS ns.length e)) (n0 ++ flSs n0.length (snS gs e)) := by
      rw [← lk_stms gs e n0 n0.length hn, hln]
      refine Zq.set ?_ _ _
      refine z1.trans ?_
      rw [hln]
      exact hz.app (Zq.refl _)
    obtain ⟨ms2, z3, h3⟩ := Hs (snS gs e) (rtS ns.length e) d (i + (tS e).length) n0 _ z2 (fun _ => by rw [szSs_sn]; unfold rtS; rw [hln]; omega) m3 ho.2 (by rw [setNx_len]; omega)
    refine ⟨ms2, by rw [← apS_sn]; exact z3, ?_⟩
    rw [body, if_neg (by rw [k1]; unfold BgS Bg at b2; omega)]
    refine EvM.ok h1 ?_
    unfold lnk
    rw [if_neg hf, hg hn, show ((((n0.length + szSs gs : Nat) : Int)) - 1).toNat = n0.length + szSs gs - 1 by omega, e4]
    rw [hdS_sn _ _ hn, apS_sn] at h3
    exact evm_call h3
/-- A block. -/
theorem RdSs.blk {ss : Stms} (H : RdSs T ss) {d i : Nat} {ns : List Nd} (hm : Mx T i (tBl ss)) (hd : d < 8) (ho : OkSs (d + 1) ss) (hr : ns.length + szSs ss + 1 ≤ 200) :
    ∃ ms, Zq ms (ns ++ flB ns.length 0 ss) ∧ EvM T (body T (.block d) i ns) (.ok ((ns.length + szSs ss : Nat) : Int) (i + (tBl ss).length) ms) := by
  unfold tBl at hm
  obtain ⟨k1, _, _, s1, m1⟩ := Mx.hd hm
  simp only [tK] at k1
  obtain ⟨ms, hz, h⟩ := H .nil (-1) d (i + 1) ns ns (by simp [flSs]; exact Zq.refl _) (fun h => absurd rfl h) m1 ho (by omega)
  simp only [apS] at hz h
  have hl := hz.len
  simp only [List.length_append, flSs_len] at hl
  refine ⟨ms ++ [{ fre 2 (ps T i) with a := hdS ns.length ss }], ?_, ?_⟩
  · unfold flB
    rw [← List.append_assoc]
    exact hz.app (.one (by simp [zN, fre]))
  · rw [body, if_pos k1, ent_ok (by omega), s1]
    refine EvM.ok (by simpa [hdS] using h) ?_
    rw [put_ok (by omega), hl, show i + (tBl ss).length = i + 1 + (tSs ss).length + 1 by simp only [tBl, List.length_cons, List.length_append, List.length_nil]; omega]
    exact .fin _ _ _
theorem rtS_one (b m : Nat) (e : Stm) (h : szS e = m + 1) : rtS b e = ((b + m : Nat) : Int) := by unfold rtS; rw [h]; omega
theorem rdS_vd {s : ByteArray} {p t : Int} {e : Exp} : RdS T (.vd s p t e) := fun d i ns hm ho hr hn => by
  simp only [tS] at hm
  simp only [OkS] at ho
  simp only [szS] at hr
  obtain ⟨k1, _, _, s1, m1⟩ := Mx.hd hm
  obtain ⟨k2, _, t2, s2, m2⟩ := Mx.hd m1
  obtain ⟨m3, m4⟩ := Mx.app m2
  obtain ⟨k5, _, _, s5, m5⟩ := Mx.hd m4
  obtain ⟨m6, m7⟩ := Mx.app m5
  obtain ⟨k8, _, _, s8, _⟩ := Mx.hd m7
  simp only [tK, tI] at k1 k2 t2 k5 k8
  obtain ⟨ms, hz, h⟩ := rd_expr (ns := ns) m6 ho.2 (by omega) (.inl k8)
  have hl := hz.len
  simp only [List.length_append, flE_len] at hl
  refine ⟨ms ++ [⟨3, rtE ns.length e, -1, -1, -1, t, ps T (i + 1), (tk T (i + 1)).text⟩], ?_, ?_⟩
  · simp only [flS]
    rw [← List.append_assoc]
    exact hz.app (.one (by simp [zN, t2]))
  · rw [body]
    simp only [k1, ↓reduceIte, s1]
    rw [wnt_ok k2, s2, typ_at ho.1 m3, wnt_ok k5, s5]
    refine EvM.ok h ?_
    rw [wnt_ok k8, s8, put_ok (by omega), rtS_one _ (szE e) (.vd s p t e) rfl, hl, show i + (tS (.vd s p t e)).length = i + 1 + 1 + (tyT t).length + 1 + (tB e).length + 1 by simp only [tS, List.length_cons, List.length_append, List.length_nil]; omega]
    exact .fin _ _ _
theorem rdS_ret {p : Int} {e : Exp} : RdS T (.ret p e) := fun d i ns hm ho hr hn => by
  simp only [tS] at hm
  simp only [OkS] at ho
  simp only [szS] at hr
  obtain ⟨k1, _, _, s1, m1⟩ := Mx.hd hm
  obtain ⟨m6, m7⟩ := Mx.app m1
  obtain ⟨k8, _, _, s8, _⟩ := Mx.hd m7
  simp only [tK] at k1 k8
  obtain ⟨ms, hz, h⟩ := rd_expr (ns := ns) m6 ho (by omega) (.inl k8)
  have hl := hz.len
  simp only [List.length_append, flE_len] at hl
  refine ⟨ms ++ [{ fre 7 (ps T i) with a := rtE ns.length e }], ?_, ?_⟩
  · simp only [flS]
    rw [← List.append_assoc]
    exact hz.app (.one (by simp [zN, fre]))
  · rw [body]
    simp only [k1, ↓reduceIte, s1, Int.reduceEq]
    refine EvM.ok h ?_
    rw [wnt_ok k8, s8, put_ok (by omega), rtS_one _ (szE e) (.ret p e) rfl, hl, show i + (tS (.ret p e)).length = i + 1 + (tB e).length + 1 by simp only [tS, List.length_cons, List.length_append, List.length_nil]; omega]
    exact .fin _ _ _
theorem rdS_prt {p : Int} {e : Exp} : RdS T (.prt p e) := fun d i ns hm ho hr hn => by
  simp only [tS] at hm
  simp only [OkS] at ho
  simp only [szS] at hr
  obtain ⟨k1, _, _, s1, m1⟩ := Mx.hd hm
  obtain ⟨m6, m7⟩ := Mx.app m1
  obtain ⟨k8, _, _, s8, _⟩ := Mx.hd m7
  simp only [tK] at k1 k8
  obtain ⟨ms, hz, h⟩ := rd_expr (ns := ns) m6 ho (by omega) (.inl k8)
  have hl := hz.len
  simp only [List.length_append, flE_len] at hl
  refine ⟨ms ++ [{ fre 8 (ps T i) with a := rtE ns.length e }], ?_, ?_⟩
  · simp only [flS]
    rw [← List.append_assoc]
    exact hz.app (.one (by simp [zN, fre]))
  · rw [body]
    simp only [k1, ↓reduceIte, s1, Int.reduceEq]
    refine EvM.ok h ?_
    rw [wnt_ok k8, s8, put_ok (by omega), rtS_one _ (szE e) (.prt p e) rfl, hl, show i + (tS (.prt p e)).length = i + 1 + (tB e).length + 1 by simp only [tS, List.length_cons, List.length_append, List.length_nil]; omega]
    exact .fin _ _ _
theorem rdS_exp {e : Exp} : RdS T (.exp e) := fun d i ns hm ho hr hn => by
  simp only [tS] at hm
  simp only [OkS] at ho
  simp only [szS] at hr
  obtain ⟨m6, m7⟩ := Mx.app hm
  obtain ⟨k8, _, _, s8, _⟩ := Mx.hd m7
  simp only [tK] at k8
  obtain ⟨t, l, b1, b2, _⟩ := tB_hd e ho
  have k1 : kd T i = t.kind := (Mx.hd (b1 ▸ m6)).1
  unfold Bg at b2
  obtain ⟨ms, hz, h⟩ := rd_expr (ns := ns) m6 ho (by omega) (.inl k8)
  have hl := hz.len
  simp only [List.length_append, flE_len] at hl
  refine ⟨ms ++ [⟨9, rtE ns.length e, -1, -1, -1, 0, (ms[(rtE ns.length e).toNat]?.getD nd0).pos, ⟨#[]⟩⟩], ?_, ?_⟩
  · simp only [flS]
    rw [← List.append_assoc]
    exact hz.app (.one (by simp [zN]))
  · rw [body]
    simp only [k1]
    rw [if_neg (by omega), if_neg (by omega), if_neg (by omega), if_neg (by omega), if_neg (by omega)]
    refine EvM.ok h ?_
    rw [if_neg (by rw [k8]; simp), wnt_ok k8, s8, put_ok (by omega), rtS_one _ (szE e) (.exp e) rfl, hl, show i + (tS (.exp e)).length = i + (tB e).length + 1 by simp only [tS, List.length_cons, List.length_append, List.length_nil]; omega]
    exact .fin _ _ _
theorem rdS_asg {p : Int} {a b : Exp} : RdS T (.asg p a b) := fun d i ns hm ho hr hn => by
  simp only [tS] at hm
  simp only [OkS] at ho
  simp only [szS] at hr
  obtain ⟨m6, m7⟩ := Mx.app hm
  obtain ⟨k2, _, _, s2, m8⟩ := Mx.hd m7
  obtain ⟨m9, m10⟩ := Mx.app m8
  obtain ⟨k8, _, _, s8, _⟩ := Mx.hd m10
  simp only [tK] at k2 k8
  obtain ⟨t, l, b1, b2, _⟩ := tB_hd a ho.2.1
  have k1 : kd T i = t.kind := (Mx.hd (b1 ▸ m6)).1
  unfold Bg at b2
  obtain ⟨ma, za, ha⟩ := rd_expr (ns := ns) m6 ho.2.1 (by omega) (.inr (.inl k2))
  have hla := za.len
  simp only [List.length_append, flE_len] at hla
  obtain ⟨mb, zb, hb⟩ := rd_expr (ns := ma) m9 ho.2.2 (by omega) (.inl k8)
  have hlb := zb.len
  simp only [List.length_append, flE_len] at hlb
  have hki : (ma[(rtE ns.length a).toNat]?.getD nd0).kind = 12 ∨ (ma[(rtE ns.length a).toNat]?.getD nd0).kind = 14 := by
    rw [za.kind, (root_at ns a).1]
    have := ho.1
    cases a <;> simp [lvE, kiE] at *
  refine ⟨mb ++ [⟨4, rtE ns.length a, rtE ma.length b, -1, -1, 0, ps T (i + (tB a).length), ⟨#[]⟩⟩], ?_, ?_⟩
  · simp only [flS]
    rw [← List.append_assoc, ← List.append_assoc]
    refine (zb.trans ?_).app (.one (by simp [zN, hla]))
    rw [hla]
    exact za.app (Zq.refl _)
  · rw [body]
    simp only [k1]
    rw [if_neg (by omega), if_neg (by omega), if_neg (by omega), if_neg (by omega), if_neg (by omega)]
    refine EvM.ok ha ?_
    rw [if_pos ⟨k2, hki⟩, s2]
    refine EvM.ok hb ?_
    rw [wnt_ok k8, s8, put_ok (by omega), rtS_one _ (szE a + szE b) (.asg p a b) rfl, show mb.length = ns.length + (szE a + szE b) by omega, show i + (tS (.asg p a b)).length = i + (tB a).length + 1 + (tB b).length + 1 by simp only [tS, List.length_cons, List.length_append, List.length_nil]; omega]
    exact .fin _ _ _
theorem flB_z (b : Nat) (p q : Int) (ss : Stms) : Zq (flB b p ss) (flB b q ss) := by unfold flB; exact (Zq.refl _).app (.one rfl)
theorem rdS_iff {p : Int} {e : Exp} {bp : Int} {ss : Stms} (H : RdSs T ss) : RdS T (.iff p e bp ss) := fun d i ns hm ho hr hn => by
  have hn2 := hn
  simp only [tS] at hm hn2
  simp only [OkS] at ho
  simp only [szS] at hr
  obtain ⟨k1, _, _, s1, m1⟩ := Mx.hd hm
  obtain ⟨m6, m7⟩ := Mx.app m1
  have k7 := (Mx.hd m7).1
  simp only [tK] at k1 k7
  obtain ⟨ma, za, ha⟩ := rd_expr (ns := ns) m6 ho.1 (by omega) (.inr (.inr k7))
  have hla := za.len
  simp only [List.length_append, flE_len] at hla
  obtain ⟨mb, zb, hb⟩ := H.blk (ns := ma) m7 ho.2.1 ho.2.2 (by omega)
  have hlb := zb.len
  simp only [List.length_append, flB_len] at hlb
  have hj : i + (tS (.iff p e bp ss)).length = i + 1 + (tB e).length + (tBl ss).length := by simp only [tS, tBl, List.length_cons, List.length_append, List.length_nil]; omega
  refine ⟨mb ++ [⟨5, rtE ns.length e, ((ma.length + szSs ss : Nat) : Int), -1, -1, 0, ps T i, ⟨#[]⟩⟩], ?_, ?_⟩
  · simp only [flS]
    rw [← List.append_assoc, ← List.append_assoc]
    refine (zb.trans ?_).app (.one (by simp [zN, hla]))
    rw [hla]
    exact za.app (flB_z _ _ bp _)
  · rw [hj] at hn
    rw [body]
    simp only [k1, ↓reduceIte, Int.reduceEq, s1]
    refine EvM.ok ha ?_
    refine EvM.ok hb ?_
    rw [if_neg hn, put_ok (by omega), rtS_one _ (szE e + (szSs ss + 1)) (.iff p e bp ss) rfl, show mb.length = ns.length + (szE e + (szSs ss + 1)) by omega, hj]
    exact .fin _ _ _
theorem rdS_whl {p : Int} {e : Exp} {bp : Int} {ss : Stms} (H : RdSs T ss) : RdS T (.whl p e bp ss) := fun d i ns hm ho hr hn => by
  simp only [tS] at hm
  simp only [OkS] at ho
  simp only [szS] at hr
  obtain ⟨k1, _, _, s1, m1⟩ := Mx.hd hm
  obtain ⟨m6, m7⟩ := Mx.app m1
  have k7 := (Mx.hd m7).1
  simp only [tK] at k1 k7
  obtain ⟨ma, za, ha⟩ := rd_expr (ns := ns) m6 ho.1 (by omega) (.inr (.inr k7))
  have hla := za.len
  simp only [List.length_append, flE_len] at hla
  obtain ⟨mb, zb, hb⟩ := H.blk (ns := ma) m7 ho.2.1 ho.2.2 (by omega)
  have hlb := zb.len
  simp only [List.length_append, flB_len] at hlb
  have hj : i + (tS (.whl p e bp ss)).length = i + 1 + (tB e).length + (tBl ss).length := by simp only [tS, tBl, List.length_cons, List.length_append, List.length_nil]; omega
  refine ⟨mb ++ [⟨6, rtE ns.length e, ((ma.length + szSs ss : Nat) : Int), -1, -1, 0, ps T i, ⟨#[]⟩⟩], ?_, ?_⟩
  · simp only [flS]
    rw [← List.append_assoc, ← List.append_assoc]
    refine (zb.trans ?_).app (.one (by simp [zN, hla]))
    rw [hla]
    exact za.app (flB_z _ _ bp _)
  · rw [body]
    simp only [k1, ↓reduceIte, Int.reduceEq, s1]
    refine EvM.ok ha ?_
    refine EvM.ok hb ?_
    rw [put_ok (by omega), rtS_one _ (szE e + (szSs ss + 1)) (.whl p e bp ss) rfl, show mb.length = ns.length + (szE e + (szSs ss + 1)) by omega, hj]
    exact .fin _ _ _
theorem rdS_ife {p : Int} {e : Exp} {bp cp : Int} {ss cs : Stms} (H : RdSs T ss) (H2 : RdSs T cs) : RdS T (.ife p e bp ss cp cs) := fun d i ns hm ho hr hn => by
  simp only [tS] at hm
  simp only [OkS] at ho
  simp only [szS] at hr
  obtain ⟨k1, _, _, s1, m1⟩ := Mx.hd hm
  obtain ⟨m6, m7⟩ := Mx.app m1
  obtain ⟨m8, m9⟩ := Mx.app m7
  have k7 := (Mx.hd m8).1
  obtain ⟨k9, _, _, s9, m10⟩ := Mx.hd m9
  simp only [tK] at k1 k7
  have k9' : kd T (i + 1 + (tB e).length + (tBl ss).length) = 6 := k9
  have s9' : stp T (i + 1 + (tB e).length + (tBl ss).length) = i + 1 + (tB e).length + (tBl ss).length + 1 := s9
  obtain ⟨ma, za, ha⟩ := rd_expr (ns := ns) m6 ho.1 (by omega) (.inr (.inr k7))
  have hla := za.len
  simp only [List.length_append, flE_len] at hla
  obtain ⟨mb, zb, hb⟩ := H.blk (ns := ma) m8 ho.2.1 ho.2.2.1 (by omega)
  have hlb := zb.len
  simp only [List.length_append, flB_len] at hlb
  obtain ⟨mc, zc, hc⟩ := H2.blk (ns := mb) m10 ho.2.1 ho.2.2.2 (by omega)
  have hlc := zc.len
  simp only [List.length_append, flB_len] at hlc
  have hj : i + (tS (.ife p e bp ss cp cs)).length = i + 1 + (tB e).length + (tBl ss).length + 1 + (tBl cs).length := by simp only [tS, tBl, List.length_cons, List.length_append, List.length_nil]; omega
  refine ⟨mc ++ [⟨5, rtE ns.length e, ((ma.length + szSs ss : Nat) : Int), ((mb.length + szSs cs : Nat) : Int), -1, 0, ps T i, ⟨#[]⟩⟩], ?_, ?_⟩
  · show Zq _ (ns ++ (flE ns.length (-1) e ++ flB (ns.length + szE e) bp ss ++ flB (ns.length + szE e + (szSs ss + 1)) cp cs ++ [⟨5, rtE ns.length e, ((ns.length + szE e + szSs ss : Nat) : Int), ((ns.length + szE e + (szSs ss + 1) + szSs cs : Nat) : Int), -1, 0, p, ⟨#[]⟩⟩]))
    rw [← List.append_assoc, ← List.append_assoc, ← List.append_assoc]
    refine (zc.trans ?_).app (.one (by simp [zN, hla, hlb]))
    rw [hlb, hla]
    refine Zq.app (zb.trans ?_) (flB_z _ _ cp _)
    rw [hla]
    exact za.app (flB_z _ _ bp _)
  · rw [body]
    simp only [k1, ↓reduceIte, Int.reduceEq, s1]
    refine EvM.ok ha ?_
    refine EvM.ok hb ?_
    rw [if_pos k9', s9']
    refine EvM.ok hc ?_
    rw [put_ok (by omega), rtS_one _ (szE e + (szSs ss + 1) + (szSs cs + 1)) (.ife p e bp ss cp cs) rfl, show mc.length = ns.length + (szE e + (szSs ss + 1) + (szSs cs + 1)) by omega, hj]
    exact .fin _ _ _
end
mutual
theorem rdS (T : List Tok) : (s : Stm) → RdS T s
  | .vd .. => rdS_vd
  | .asg .. => rdS_asg
  | .iff _ _ _ b => rdS_iff (rdSs T b)
  | .ife _ _ _ b _ c => rdS_ife (rdSs T b) (rdSs T c)
  | .whl _ _ _ b => rdS_whl (rdSs T b)
  | .ret .. => rdS_ret
  | .prt .. => rdS_prt
  | .exp .. => rdS_exp
theorem rdSs (T : List Tok) : (ss : Stms) → RdSs T ss
  | .nil => rdSs_nil
  | .cons s ss => rdSs_cons (rdS T s) (rdSs T ss)
end
end Go.Proofs.Qxb6500280a
