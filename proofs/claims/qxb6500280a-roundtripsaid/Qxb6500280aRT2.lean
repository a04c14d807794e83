/- The round trip, plain: printed expressions are read back. -/
import Derived.Test.Qxb6500280aRT1
namespace Go.Proofs.Qxb6500280a
open Go Go.RowKit

section
variable {T : List Tok}
def PostC (T : List Tok) (d i : Nat) (ns : List Nd) (x : Int) (j : Nat) (ms : List Nd) : Prop := ∀ r, EvM T (body T (.postL d x) j ms) r → EvM T (body T (.post d) i ns) r
def UnF (T : List Tok) (d i : Nat) (ns : List Nd) (x : Int) (j : Nat) (ms : List Nd) : Prop := EvM T (body T (.un d) i ns) (.ok x j ms)
def LevF (T : List Tok) (lv d i : Nat) (ns : List Nd) (x : Int) (j : Nat) (ms : List Nd) : Prop := EvM T (body T (.lev lv d) i ns) (.ok x j ms)
def LevC (T : List Tok) (lv d i : Nat) (ns : List Nd) (x : Int) (j : Nat) (ms : List Nd) : Prop := ∀ r, EvM T (body T (.levL lv d x) j ms) r → EvM T (body T (.lev lv d) i ns) r
variable {lv d i j : Nat} {ns ms : List Nd} {x : Int}
theorem evm_call {q : Rq} {i : Nat} {ns : List Nd} {r : Rs} (h : EvM T (body T q i ns) r) : EvM T (.call q i ns fin) r := by
  cases r with
  | bad e p => exact h.bad
  | ok x j ms => exact h.ok (.fin _ _ _)
theorem PostC.un (h : PostC T d i ns x j ms) (hi : kd T i ≠ 33 ∧ kd T i ≠ 39) (hj : kd T j ≠ 21) : UnF T d i ns x j ms := by
  unfold UnF
  simp only [body]
  rw [if_neg (by omega)]
  refine evm_call (h _ ?_)
  simp only [body]
  rw [if_neg hj]
  exact .fin _ _ _
theorem UnF.lev (h : UnF T d i ns x j ms) : LevF T 6 d i ns x j ms := by
  unfold LevF
  simp only [body]
  rw [if_pos (by omega)]
  exact evm_call h
theorem LevF.toC (h : LevF T (lv + 1) d i ns x j ms) (hl : lv ≤ 5) : LevC T lv d i ns x j ms := fun r hr => by
  rw [body]
  rw [if_neg (by omega)]
  exact EvM.ok h (evm_call hr)
theorem LevC.full (h : LevC T lv d i ns x j ms) (hj : pow (kd T j) < lv) : LevF T lv d i ns x j ms := h _ (by
  simp only [body]
  rw [if_neg (by omega)]
  exact .fin _ _ _)
theorem LevF.down : ∀ (k lv : Nat), LevF T (lv + k) d i ns x j ms → 1 ≤ lv → lv + k ≤ 6 → pow (kd T j) < lv → LevF T lv d i ns x j ms
  | 0, _, h, _, _, _ => h
  | k + 1, lv, h, h1, h2, h3 => by
    have := LevF.down k (lv + 1) (by rw [show lv + 1 + k = lv + (k + 1) by omega]; exact h) (by omega) (by omega) (by omega)
    exact (this.toC (by omega)).full h3
theorem primP (h : EvM T (body T (.prim d) i ns) (.ok x j ms)) : PostC T d i ns x j ms := fun r hr => by
  rw [body]
  exact EvM.ok h (evm_call hr)
/-- What may follow a tree of power lv. -/
def NxE (T : List Tok) (lv j : Nat) : Prop := kd T j ≠ 17 ∧ (lv < 7 → kd T j ≠ 21) ∧ (lv < 6 → pow (kd T j) ≤ lv)
def Cw (T : List Tok) (lv d i : Nat) (ns : List Nd) (x : Int) (j : Nat) (ms : List Nd) : Prop := (lv = 7 → PostC T d i ns x j ms) ∧ (lv = 6 → UnF T d i ns x j ms) ∧ (lv ≤ 5 → LevC T lv d i ns x j ms)
/-- The tokens of e are read as e. -/
def Rd (T : List Tok) (e : Exp) : Prop := ∀ d i ns, Mx T i (tB e) → OkE 1 d e → ns.length + szE e ≤ 200 → NxE T (pwE e) (i + (tB e).length) → ∃ ms, Zq ms (ns ++ flE ns.length (-1) e) ∧ Cw T (pwE e) d i ns (rtE ns.length e) (i + (tB e).length) ms
variable {e : Exp}
theorem Rd.levB (H : Rd T e) (hl : 1 ≤ lv) (h6 : lv ≤ 6) (hw : lv ≤ pwE e) (hm : Mx T i (tB e)) (ho : OkE 1 d e) (hr : ns.length + szE e ≤ 200)
    (h17 : kd T (i + (tB e).length) ≠ 17) (h21 : kd T (i + (tB e).length) ≠ 21) (hp : pow (kd T (i + (tB e).length)) < lv) : ∃ ms, Zq ms (ns ++ flE ns.length (-1) e) ∧ LevF T lv d i ns (rtE ns.length e) (i + (tB e).length) ms := by
  obtain ⟨ms, hz, c7, c6, c5⟩ := H d i ns hm ho hr ⟨h17, fun _ => h21, fun _ => by omega⟩
  refine ⟨ms, hz, ?_⟩
  rcases (show pwE e = 7 ∨ pwE e = 6 ∨ pwE e ≤ 5 by have := pwE_le e; omega) with h | h | h
  · obtain ⟨t, l, h1, h2, h3⟩ := tB_hd e ho
    have hk : kd T i = t.kind := (Mx.hd (h1 ▸ hm)).1
    have := ((c7 h).un (by rw [hk]; exact h3 h) h21).lev
    exact LevF.down (6 - lv) lv (by rw [show lv + (6 - lv) = 6 by omega]; exact this) hl (by omega) hp
  · exact LevF.down (6 - lv) lv (by rw [show lv + (6 - lv) = 6 by omega]; exact (c6 h).lev) hl (by omega) hp
  · have := (c5 h).full (by omega)
    exact LevF.down (pwE e - lv) lv (by rw [show lv + (pwE e - lv) = pwE e by omega]; exact this) hl (by omega) hp
theorem pwE_pos {lv d : Nat} {e : Exp} (h : OkE lv d e) : 1 ≤ pwE e := by
  cases e with
  | bin k p l r => simp only [OkE] at h; exact h.1
  | _ => simp [pwE]
theorem pow17 : pow 17 = 0 := by decide
theorem Rd.inner (H : Rd T e) (hm : Mx T i (tK 17 :: (tB e ++ [tK 18]))) (hd : d < 8) (ho : OkE 1 (d + 1) e) (hr : ns.length + szE e ≤ 200) (hj : j = i + (tB e).length + 2) :
    ∃ ms, Zq ms (ns ++ flE ns.length (-1) e) ∧ EvM T (body T (.inner d) i ns) (.ok (rtE ns.length e) j ms) := by
  obtain ⟨k1, _, _, s1, hm⟩ := Mx.hd hm
  obtain ⟨m1, m2⟩ := Mx.app hm
  obtain ⟨k2, _, _, s2, _⟩ := Mx.hd m2
  simp only [tK] at k1 k2
  obtain ⟨ms, hz, hl⟩ := H.levB (lv := 1) (d := d + 1) (Nat.le_refl _) (by omega) (pwE_pos ho) m1 ho hr (by rw [k2]; decide) (by rw [k2]; decide) (by rw [k2]; decide)
  refine ⟨ms, hz, ?_⟩
  simp only [body, k1, ↓reduceIte]
  rw [ent_ok (by omega), s1]
  refine EvM.ok hl ?_
  rw [wnt_ok k2, s2, hj, show i + (tB e).length + 2 = i + 1 + (tB e).length + 1 by omega]
  exact .fin _ _ _
theorem Rd.par (H : Rd T e) (hm : Mx T i (tK 17 :: (tB e ++ [tK 18]))) (hd : d < 8) (ho : OkE 1 (d + 1) e) (hr : ns.length + szE e ≤ 200) (hj : j = i + (tB e).length + 2) :
    ∃ ms, Zq ms (ns ++ flE ns.length (-1) e) ∧ PostC T d i ns (rtE ns.length e) j ms := by
  obtain ⟨ms, hz, h⟩ := H.inner hm hd ho hr hj
  refine ⟨ms, hz, primP ?_⟩
  have k1 := (Mx.hd hm).1
  simp only [tK] at k1
  simp only [body, k1, ↓reduceIte, Int.reduceEq]
  exact evm_call h
theorem Rd.post (H : Rd T e) (hm : Mx T i (tE 7 e)) (ho : OkE 7 d e) (hr : ns.length + szE e ≤ 200) (h17 : kd T (i + (tE 7 e).length) ≠ 17) :
    ∃ ms, Zq ms (ns ++ flE ns.length (-1) e) ∧ PostC T d i ns (rtE ns.length e) (i + (tE 7 e).length) ms := by
  by_cases hw : pwE e < 7
  · simp only [tE, br, if_pos hw] at hm h17 ⊢
    obtain ⟨hd, ho'⟩ := ho.brk hw (by omega)
    exact H.par hm hd ho' hr (by simp only [List.length_cons, List.length_append, List.length_nil]; omega)
  · simp only [tE, br, if_neg hw] at hm h17 ⊢
    obtain ⟨ms, hz, c7, _⟩ := H d i ns hm (ho.one (by omega) (by omega)) hr ⟨h17, fun h => by omega, fun h => by omega⟩
    exact ⟨ms, hz, c7 (by have := pwE_le e; omega)⟩
theorem Rd.un (H : Rd T e) (hm : Mx T i (tE 6 e)) (ho : OkE 6 d e) (hr : ns.length + szE e ≤ 200) (h17 : kd T (i + (tE 6 e).length) ≠ 17) (h21 : kd T (i + (tE 6 e).length) ≠ 21) :
    ∃ ms, Zq ms (ns ++ flE ns.length (-1) e) ∧ UnF T d i ns (rtE ns.length e) (i + (tE 6 e).length) ms := by
  by_cases hw : pwE e < 6
  · simp only [tE, br, if_pos hw] at hm h17 h21 ⊢
    obtain ⟨hd, ho'⟩ := ho.brk hw (by omega)
    obtain ⟨ms, hz, h⟩ := H.par hm hd ho' hr (j := i + (tK 17 :: (tB e ++ [tK 18])).length) (by simp only [List.length_cons, List.length_append, List.length_nil]; omega)
    have k1 := (Mx.hd hm).1
    simp only [tK] at k1
    exact ⟨ms, hz, h.un (by rw [k1]; decide) h21⟩
  · simp only [tE, br, if_neg hw] at hm h17 h21 ⊢
    have ho1 := ho.one (by omega) (by omega)
    obtain ⟨ms, hz, c7, c6, _⟩ := H d i ns hm ho1 hr ⟨h17, fun h => h21, fun h => by omega⟩
    refine ⟨ms, hz, ?_⟩
    rcases (show pwE e = 7 ∨ pwE e = 6 by have := pwE_le e; omega) with h | h
    · obtain ⟨t, l, h1, h2, h3⟩ := tB_hd e ho1
      have hk : kd T i = t.kind := (Mx.hd (h1 ▸ hm)).1
      exact (c7 h).un (by rw [hk]; exact h3 h) h21
    · exact c6 h
theorem Rd.lev (H : Rd T e) (hl : 1 ≤ lv) (h6 : lv ≤ 6) (hm : Mx T i (tE lv e)) (ho : OkE lv d e) (hr : ns.length + szE e ≤ 200) (h17 : kd T (i + (tE lv e).length) ≠ 17) (h21 : kd T (i + (tE lv e).length) ≠ 21) (hp : pow (kd T (i + (tE lv e).length)) < lv) :
    ∃ ms, Zq ms (ns ++ flE ns.length (-1) e) ∧ LevF T lv d i ns (rtE ns.length e) (i + (tE lv e).length) ms := by
  by_cases hw : pwE e < lv
  · simp only [tE, br, if_pos hw] at hm h17 h21 hp ⊢
    obtain ⟨hd, ho'⟩ := ho.brk hw (by omega)
    obtain ⟨ms, hz, h⟩ := H.par hm hd ho' hr (j := i + (tK 17 :: (tB e ++ [tK 18])).length) (by simp only [List.length_cons, List.length_append, List.length_nil]; omega)
    have k1 := (Mx.hd hm).1
    simp only [tK] at k1
    exact ⟨ms, hz, LevF.down (6 - lv) lv (by rw [show lv + (6 - lv) = 6 by omega]; exact (h.un (by rw [k1]; decide) h21).lev) hl (by omega) hp⟩
  · simp only [tE, br, if_neg hw] at hm h17 h21 hp ⊢
    exact H.levB hl h6 (by omega) hm (ho.one hl (by omega)) hr h17 h21 hp
theorem Rd.levC (H : Rd T e) (hl : 1 ≤ lv) (h6 : lv ≤ 5) (hm : Mx T i (tE lv e)) (ho : OkE lv d e) (hr : ns.length + szE e ≤ 200) (h17 : kd T (i + (tE lv e).length) ≠ 17) (h21 : kd T (i + (tE lv e).length) ≠ 21) (hp : pow (kd T (i + (tE lv e).length)) ≤ lv) :
    ∃ ms, Zq ms (ns ++ flE ns.length (-1) e) ∧ LevC T lv d i ns (rtE ns.length e) (i + (tE lv e).length) ms := by
  by_cases hw : pwE e < lv
  · simp only [tE, br, if_pos hw] at hm h17 h21 hp ⊢
    obtain ⟨hd, ho'⟩ := ho.brk hw (by omega)
    obtain ⟨ms, hz, h⟩ := H.par hm hd ho' hr (j := i + (tK 17 :: (tB e ++ [tK 18])).length) (by simp only [List.length_cons, List.length_append, List.length_nil]; omega)
    have k1 := (Mx.hd hm).1
    simp only [tK] at k1
    exact ⟨ms, hz, LevF.toC (LevF.down (5 - lv) (lv + 1) (by rw [show lv + 1 + (5 - lv) = 6 by omega]; exact (h.un (by rw [k1]; decide) h21).lev) (by omega) (by omega) (by omega)) h6⟩
  · simp only [tE, br, if_neg hw] at hm h17 h21 hp ⊢
    have ho1 := ho.one hl (by omega)
    by_cases he : pwE e = lv
    · obtain ⟨ms, hz, _, _, c5⟩ := H d i ns hm ho1 hr ⟨h17, fun h => h21, fun h => by omega⟩
      have c := c5 (by omega)
      rw [he] at c
      exact ⟨ms, hz, c⟩
    · obtain ⟨ms, hz, h⟩ := H.levB (lv := lv + 1) (by omega) (by omega) (by omega) hm ho1 hr h17 h21 (by omega)
      exact ⟨ms, hz, h.toC h6⟩
theorem Cw.post (h : PostC T d i ns x j ms) (hl : lv = 7) : Cw T lv d i ns x j ms := ⟨fun _ => h, fun q => by omega, fun q => by omega⟩
theorem rt_one (b m : Nat) (e : Exp) (h : szE e = m + 1) : rtE b e = ((b + m : Nat) : Int) := by unfold rtE; rw [h]; omega
theorem prim_leaf {nd nd' : Nd} (hb : body T (.prim d) i ns = put nd j ns fin) (hr : ns.length + 1 ≤ 200) (he : szE e = 1) (hz : zN nd = zN nd') (hf : flE ns.length (-1) e = [nd']) :
    ∃ ms, Zq ms (ns ++ flE ns.length (-1) e) ∧ PostC T d i ns (rtE ns.length e) j ms := by
  refine ⟨ns ++ [nd], by rw [hf]; exact (Zq.refl _).app (.one hz), primP ?_⟩
  rw [hb, put_ok (by omega), rt_one _ 0 e he]
  exact .fin _ _ _
theorem rd_num (v p : Int) : Rd T (.num v p) := fun d i ns hm ho hr hn => by
  simp only [tB] at hm
  obtain ⟨k1, v1, _, s1, m1⟩ := Mx.hd hm
  simp only [tV] at k1 v1
  obtain ⟨ms, hz, h⟩ := prim_leaf (T := T) (d := d) (i := i) (ns := ns) (j := i + 1) (e := .num v p) (nd := { fre 10 (ps T i) with val := (tk T i).val }) (nd' := ⟨10, -1, -1, -1, -1, v, p, ⟨#[]⟩⟩) (by simp only [body, k1, ↓reduceIte, s1]) (by simpa [szE] using hr) rfl (by simp [zN, fre, v1]) rfl
  exact ⟨ms, hz, Cw.post h rfl⟩
theorem rd_boo (v p : Int) : Rd T (.boo v p) := fun d i ns hm ho hr hn => by
  simp only [tB] at hm
  obtain ⟨k1, _, _, s1, m1⟩ := Mx.hd hm
  simp only [OkE] at ho
  rcases ho with rfl | rfl
  · simp only [tK, ↓reduceIte] at k1
    obtain ⟨ms, hz, h⟩ := prim_leaf (T := T) (d := d) (i := i) (ns := ns) (j := i + 1) (e := .boo 0 p) (nd := fre 11 (ps T i)) (nd' := ⟨11, -1, -1, -1, -1, 0, p, ⟨#[]⟩⟩) (by simp only [body, k1, ↓reduceIte, s1, Int.reduceEq]) (by simpa [szE] using hr) rfl (by simp [zN, fre]) rfl
    exact ⟨ms, hz, Cw.post h rfl⟩
  · simp only [tK, ↓reduceIte, Int.reduceEq] at k1
    obtain ⟨ms, hz, h⟩ := prim_leaf (T := T) (d := d) (i := i) (ns := ns) (j := i + 1) (e := .boo 1 p) (nd := { fre 11 (ps T i) with val := 1 }) (nd' := ⟨11, -1, -1, -1, -1, 1, p, ⟨#[]⟩⟩) (by simp only [body, k1, ↓reduceIte, s1, Int.reduceEq]) (by simpa [szE] using hr) rfl (by simp [zN, fre]) rfl
    exact ⟨ms, hz, Cw.post h rfl⟩
theorem rd_var (s : ByteArray) (p : Int) : Rd T (.var s p) := fun d i ns hm ho hr hn => by
  have h17 := hn.1
  simp only [tB] at hm h17
  obtain ⟨k1, _, t1, s1, m1⟩ := Mx.hd hm
  simp only [tI] at k1 t1
  simp only [List.length_cons, List.length_nil] at h17
  obtain ⟨ms, hz, h⟩ := prim_leaf (T := T) (d := d) (i := i) (ns := ns) (j := i + 1) (e := .var s p) (nd := { fre 12 (ps T i) with name := (tk T i).text }) (nd' := ⟨12, -1, -1, -1, -1, 0, p, s⟩) (by simp only [body, k1, ↓reduceIte, s1, Int.reduceEq]; rw [if_neg (by simpa using h17)]) (by simpa [szE] using hr) rfl (by simp [zN, fre, t1]) rfl
  exact ⟨ms, hz, Cw.post h rfl⟩
theorem rd_rd (p : Int) : Rd T (.rd p) := fun d i ns hm ho hr hn => by
  simp only [tB] at hm
  obtain ⟨k1, _, _, s1, m1⟩ := Mx.hd hm
  obtain ⟨k2, _, _, s2, m2⟩ := Mx.hd m1
  obtain ⟨k3, _, _, s3, m3⟩ := Mx.hd m2
  simp only [tK] at k1 k2 k3
  obtain ⟨ms, hz, h⟩ := prim_leaf (T := T) (d := d) (i := i) (ns := ns) (j := i + 1 + 1 + 1) (e := .rd p) (nd := fre 17 (ps T i)) (nd' := ⟨17, -1, -1, -1, -1, 0, p, ⟨#[]⟩⟩) (by simp only [body, k1, ↓reduceIte, s1, Int.reduceEq, wnt, k2, s2, k3, s3]) (by simpa [szE] using hr) rfl (by simp [zN, fre]) rfl
  exact ⟨ms, hz, Cw.post h rfl⟩
theorem rd_new {t p : Int} (H : Rd T e) : Rd T (.new t p e) := fun d i ns hm ho hr hn => by
  simp only [tB] at hm
  simp only [OkE] at ho
  simp only [szE] at hr
  obtain ⟨k1, _, _, s1, hm⟩ := Mx.hd hm
  obtain ⟨m1, m2⟩ := Mx.app hm
  simp only [tK] at k1
  obtain ⟨ms, hz, h⟩ := H.inner (j := i + (tB (.new t p e)).length) m2 ho.2.1 ho.2.2 (ns := ns) (by omega) (by simp only [tB, List.length_cons, List.length_append, List.length_nil]; omega)
  have hl := hz.len
  simp only [List.length_append, flE_len] at hl
  refine ⟨ms ++ [{ fre 15 (ps T i) with val := t, a := rtE ns.length e }], ?_, Cw.post (primP ?_) rfl⟩
  · simp only [flE]
    rw [← List.append_assoc]
    exact hz.app (.one (by simp [zN, fre]))
  · rw [body]
    simp only [k1, ↓reduceIte, Int.reduceEq]
    rw [s1, typ_at ho.1 m1]
    refine EvM.ok h ?_
    rw [put_ok (by omega), rt_one _ (szE e) (.new t p e) rfl, hl]
    exact .fin _ _ _
theorem rd_len {p : Int} (H : Rd T e) : Rd T (.len p e) := fun d i ns hm ho hr hn => by
  simp only [tB] at hm
  simp only [OkE] at ho
  simp only [szE] at hr
  obtain ⟨k1, _, _, s1, m2⟩ := Mx.hd hm
  simp only [tK] at k1
  obtain ⟨ms, hz, h⟩ := H.inner (j := i + (tB (.len p e)).length) m2 ho.1 ho.2 (ns := ns) (by omega) (by simp only [tB, List.length_cons, List.length_append, List.length_nil]; omega)
  have hl := hz.len
  simp only [List.length_append, flE_len] at hl
  refine ⟨ms ++ [{ fre 16 (ps T i) with a := rtE ns.length e }], ?_, Cw.post (primP ?_) rfl⟩
  · simp only [flE]
    rw [← List.append_assoc]
    exact hz.app (.one (by simp [zN, fre]))
  · rw [body]
    simp only [k1, ↓reduceIte, Int.reduceEq]
    rw [s1]
    refine EvM.ok h ?_
    rw [put_ok (by omega), rt_one _ (szE e) (.len p e) rfl, hl]
    exact .fin _ _ _
theorem rd_idx {p : Int} {a b : Exp} (Ha : Rd T a) (Hb : Rd T b) : Rd T (.idx p a b) := fun d i ns hm ho hr hn => by
  simp only [tB] at hm
  simp only [OkE] at ho
  simp only [szE] at hr
  obtain ⟨m1, m2⟩ := Mx.app hm
  obtain ⟨k1, _, _, s1, m3⟩ := Mx.hd m2
  obtain ⟨m4, m5⟩ := Mx.app m3
  obtain ⟨k2, _, _, s2, _⟩ := Mx.hd m5
  simp only [tK] at k1 k2
  obtain ⟨ma, za, ha⟩ := Ha.post (ns := ns) m1 ho.2.1 (by omega) (by unfold tE; rw [k1]; decide)
  have hla := za.len
  simp only [List.length_append, flE_len] at hla
  obtain ⟨mb, zb, hb⟩ := Hb.levB (lv := 1) (ns := ma) (Nat.le_refl _) (by omega) (pwE_pos ho.2.2) m4 ho.2.2 (by omega) (by rw [k2]; decide) (by rw [k2]; decide) (by rw [k2]; decide)
  have hlb := zb.len
  simp only [List.length_append, flE_len] at hlb
  refine ⟨mb ++ [⟨14, rtE ns.length a, rtE ma.length b, -1, -1, 0, ps T (i + (br 7 a (tB a)).length), ⟨#[]⟩⟩], ?_, Cw.post (fun r h => ha r ?_) rfl⟩
  · simp only [flE]
    rw [← List.append_assoc, ← List.append_assoc]
    refine (zb.trans ?_).app (.one (by simp [zN, hla]))
    rw [hla]
    exact za.app (Zq.refl _)
  · unfold tE
    rw [body, if_pos k1, ent_ok (by omega), s1]
    refine EvM.ok hb ?_
    rw [wnt_ok k2, s2, put_ok (by omega)]
    rw [rt_one _ (szE a + szE b) (.idx p a b) rfl, show i + (tB (.idx p a b)).length = i + (br 7 a (tB a)).length + 1 + (tB b).length + 1 by simp only [tB, List.length_cons, List.length_append, List.length_nil]; omega] at h
    rw [show mb.length = ns.length + (szE a + szE b) by omega]
    exact evm_call h
theorem rd_un {k p : Int} (H : Rd T e) : Rd T (.un k p e) := fun d i ns hm ho hr hn => by
  have hn2 := hn
  simp only [tB] at hm hn2
  simp only [OkE] at ho
  simp only [szE] at hr
  obtain ⟨k1, _, _, s1, m1⟩ := Mx.hd hm
  simp only [tK] at k1
  have h2 := ho.2
  rw [if_neg (by omega)] at h2
  simp only [List.length_cons] at hn2
  rw [show i + ((br 6 e (tB e)).length + 1) = i + 1 + (br 6 e (tB e)).length by omega] at hn2
  obtain ⟨ms, hz, h⟩ := H.un (ns := ns) m1 h2.2 (by omega) hn2.1 (hn2.2.1 (by simp [pwE]))
  have hl := hz.len
  simp only [List.length_append, flE_len] at hl
  refine ⟨ms ++ [⟨19, rtE ns.length e, -1, -1, -1, kd T i, ps T i, ⟨#[]⟩⟩], ?_, fun q => (by simp [pwE] at q), fun _ => ?_, fun q => (by simp [pwE] at q)⟩
  · simp only [flE]
    rw [← List.append_assoc]
    exact hz.app (.one (by simp [zN, k1]))
  · unfold UnF
    rw [body, if_pos (by rw [k1]; exact ho.1), ent_ok (by omega), s1]
    refine EvM.ok h ?_
    rw [put_ok (by omega), rt_one _ (szE e) (.un k p e) rfl, hl, show i + (tB (.un k p e)).length = i + 1 + (tE 6 e).length by simp only [tB, tE, List.length_cons]; omega]
    exact .fin _ _ _
theorem pow_no {k : Int} (h : 1 ≤ pow k) : k ≠ 17 ∧ k ≠ 21 := ⟨fun e => by rw [e] at h; exact absurd h (by decide), fun e => by rw [e] at h; exact absurd h (by decide)⟩
theorem rd_bin {k p : Int} {l r : Exp} (Hl : Rd T l) (Hr : Rd T r) : Rd T (.bin k p l r) := fun d i ns hm ho hr hn => by
  have hn2 := hn
  simp only [tB] at hm hn2
  simp only [OkE] at ho
  simp only [szE] at hr
  obtain ⟨hk, ho⟩ := ho
  rw [if_neg (by omega)] at ho
  have hk5 := pow_le k
  obtain ⟨m1, m2⟩ := Mx.app hm
  obtain ⟨k1, _, _, s1, m3⟩ := Mx.hd m2
  simp only [tK] at k1
  simp only [List.length_append, List.length_cons] at hn2
  rw [show i + ((br (pow k) l (tB l)).length + ((br (pow k + 1) r (tB r)).length + 1)) = i + (br (pow k) l (tB l)).length + 1 + (br (pow k + 1) r (tB r)).length by omega] at hn2
  obtain ⟨n1, n2, n3⟩ := hn2
  simp only [pwE] at n2 n3
  obtain ⟨ma, za, ha⟩ := Hl.levC (ns := ns) (lv := pow k) hk hk5 m1 ho.1 (by omega) (by unfold tE; rw [k1]; exact (pow_no hk).1) (by unfold tE; rw [k1]; exact (pow_no hk).2) (by unfold tE; rw [k1]; omega)
  have hla := za.len
  simp only [List.length_append, flE_len] at hla
  obtain ⟨mb, zb, hb⟩ := Hr.lev (ns := ma) (lv := pow k + 1) (by omega) (by omega) m3 ho.2 (by omega) n1 (n2 (by omega)) (by unfold tE; have := n3 (by omega); omega)
  have hlb := zb.len
  simp only [List.length_append, flE_len] at hlb
  refine ⟨mb ++ [⟨18, rtE ns.length l, rtE ma.length r, -1, -1, kd T (i + (br (pow k) l (tB l)).length), ps T (i + (br (pow k) l (tB l)).length), ⟨#[]⟩⟩], ?_, fun q => (by simp only [pwE] at q; omega), fun q => (by simp only [pwE] at q; omega), fun _ R h => ha R ?_⟩
  · simp only [flE]
    rw [← List.append_assoc, ← List.append_assoc]
    refine (zb.trans ?_).app (.one (by simp [zN, hla, k1]))
    rw [hla]
    exact za.app (Zq.refl _)
  · unfold tE
    rw [body, if_pos (by rw [k1]), s1]
    refine EvM.ok hb ?_
    rw [put_ok (by omega)]
    rw [rt_one _ (szE l + szE r) (.bin k p l r) rfl, show i + (tB (.bin k p l r)).length = i + (br (pow k) l (tB l)).length + 1 + (tE (pow k + 1) r).length by simp only [tB, tE, List.length_cons, List.length_append]; omega] at h
    rw [show mb.length = ns.length + (szE l + szE r) by omega]
    exact evm_call h
end
end Go.Proofs.Qxb6500280a
