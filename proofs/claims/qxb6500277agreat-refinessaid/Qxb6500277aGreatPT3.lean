/- What the grammar reads: statements, functions, programs. -/
import Derived.Test.Qxb6500277aGreatPT2
namespace Go.Proofs.Qxb6500277aGreat
open Go Go.RowKit

def poE : Exp → Int
  | .num _ p | .boo _ p | .var _ p | .rd p | .call _ p _ | .idx p _ _ | .new _ p _ | .len p _ | .un _ p _ | .bin _ p _ _ => p
def kiE : Exp → Int
  | .num .. => 10 | .boo .. => 11 | .var .. => 12 | .rd .. => 17 | .call .. => 13 | .idx .. => 14 | .new .. => 15 | .len .. => 16 | .un .. => 19 | .bin .. => 18
/-- The root of a tree. -/
theorem root_at (a : List Nd) (e : Exp) : ((a ++ flE a.length (-1) e)[(rtE a.length e).toNat]?.getD nd0).kind = kiE e ∧ ((a ++ flE a.length (-1) e)[(rtE a.length e).toNat]?.getD nd0).pos = poE e := by
  have hz := szE_pos e
  have er : (rtE a.length e).toNat = a.length + (szE e - 1) := by unfold rtE; omega
  rw [er, List.getElem?_append_right (by omega), Nat.add_sub_cancel_left]
  have key : ∀ (h : List Nd) (nd : Nd), flE a.length (-1) e = h ++ [nd] → (flE a.length (-1) e)[szE e - 1]? = some nd := fun h nd hh => by
    have hl := flE_len a.length (-1) e
    rw [hh] at hl ⊢
    simp at hl
    rw [List.getElem?_append_right (by omega), show szE e - 1 - h.length = 0 by omega]
    rfl
  cases e with
  | num v p => rw [key [] _ rfl]; exact ⟨rfl, rfl⟩
  | boo v p => rw [key [] _ rfl]; exact ⟨rfl, rfl⟩
  | var s p => rw [key [] _ rfl]; exact ⟨rfl, rfl⟩
  | rd p => rw [key [] _ rfl]; exact ⟨rfl, rfl⟩
  | call s p gs => rw [key (flEs a.length gs) ⟨13, hdE a.length gs, -1, -1, -1, 0, p, s⟩ (by simp [flE])]; exact ⟨rfl, rfl⟩
  | idx p x y => rw [key (flE a.length (-1) x ++ flE (a.length + szE x) (-1) y) ⟨14, rtE a.length x, rtE (a.length + szE x) y, -1, -1, 0, p, ⟨#[]⟩⟩ (by simp [flE])]; exact ⟨rfl, rfl⟩
  | new t p e => rw [key (flE a.length (-1) e) ⟨15, rtE a.length e, -1, -1, -1, t, p, ⟨#[]⟩⟩ (by simp [flE])]; exact ⟨rfl, rfl⟩
  | len p e => rw [key (flE a.length (-1) e) ⟨16, rtE a.length e, -1, -1, -1, 0, p, ⟨#[]⟩⟩ (by simp [flE])]; exact ⟨rfl, rfl⟩
  | un k p e => rw [key (flE a.length (-1) e) ⟨19, rtE a.length e, -1, -1, -1, k, p, ⟨#[]⟩⟩ (by simp [flE])]; exact ⟨rfl, rfl⟩
  | bin k p l r => rw [key (flE a.length (-1) l ++ flE (a.length + szE l) (-1) r) ⟨18, rtE a.length l, rtE (a.length + szE l) r, -1, -1, k, p, ⟨#[]⟩⟩ (by simp [flE])]; exact ⟨rfl, rfl⟩
mutual
inductive Stm
  | vd (s : ByteArray) (p t : Int) (e : Exp) | asg (p : Int) (a b : Exp) | iff (p : Int) (e : Exp) (bp : Int) (b : Stms) | ife (p : Int) (e : Exp) (bp : Int) (b : Stms) (cp : Int) (c : Stms)
  | whl (p : Int) (e : Exp) (bp : Int) (b : Stms) | ret (p : Int) (e : Exp) | prt (p : Int) (e : Exp) | exp (e : Exp)
inductive Stms
  | nil | cons (e : Stm) (es : Stms)
end
mutual
def szS : Stm → Nat
  | .vd _ _ _ e | .ret _ e | .prt _ e | .exp e => szE e + 1
  | .asg _ a b => szE a + szE b + 1
  | .iff _ e _ b | .whl _ e _ b => szE e + (szSs b + 1) + 1
  | .ife _ e _ b _ c => szE e + (szSs b + 1) + (szSs c + 1) + 1
def szSs : Stms → Nat
  | .nil => 0
  | .cons e es => szS e + szSs es
end
def rtS (b : Nat) (e : Stm) : Int := ((b + szS e : Nat) : Int) - 1
def hdS (b : Nat) : Stms → Int
  | .nil => -1
  | .cons e _ => rtS b e
mutual
def flS (b : Nat) (nx : Int) : Stm → List Nd
  | .vd s p t e => flE b (-1) e ++ [⟨3, rtE b e, -1, -1, nx, t, p, s⟩]
  | .asg p x y => flE b (-1) x ++ flE (b + szE x) (-1) y ++ [⟨4, rtE b x, rtE (b + szE x) y, -1, nx, 0, p, ⟨#[]⟩⟩]
  | .iff p e bp ss => flE b (-1) e ++ (flSs (b + szE e) ss ++ [⟨2, hdS (b + szE e) ss, -1, -1, -1, 0, bp, ⟨#[]⟩⟩]) ++ [⟨5, rtE b e, ((b + szE e + szSs ss : Nat) : Int), -1, nx, 0, p, ⟨#[]⟩⟩]
  | .ife p e bp ss cp cs => flE b (-1) e ++ (flSs (b + szE e) ss ++ [⟨2, hdS (b + szE e) ss, -1, -1, -1, 0, bp, ⟨#[]⟩⟩]) ++ (flSs (b + szE e + (szSs ss + 1)) cs ++ [⟨2, hdS (b + szE e + (szSs ss + 1)) cs, -1, -1, -1, 0, cp, ⟨#[]⟩⟩]) ++ [⟨5, rtE b e, ((b + szE e + szSs ss : Nat) : Int), ((b + szE e + (szSs ss + 1) + szSs cs : Nat) : Int), nx, 0, p, ⟨#[]⟩⟩]
  | .whl p e bp ss => flE b (-1) e ++ (flSs (b + szE e) ss ++ [⟨2, hdS (b + szE e) ss, -1, -1, -1, 0, bp, ⟨#[]⟩⟩]) ++ [⟨6, rtE b e, ((b + szE e + szSs ss : Nat) : Int), -1, nx, 0, p, ⟨#[]⟩⟩]
  | .ret p e => flE b (-1) e ++ [⟨7, rtE b e, -1, -1, nx, 0, p, ⟨#[]⟩⟩]
  | .prt p e => flE b (-1) e ++ [⟨8, rtE b e, -1, -1, nx, 0, p, ⟨#[]⟩⟩]
  | .exp e => flE b (-1) e ++ [⟨9, rtE b e, -1, -1, nx, 0, poE e, ⟨#[]⟩⟩]
def flSs (b : Nat) : Stms → List Nd
  | .nil => []
  | .cons e es => flS b (hdS (b + szS e) es) e ++ flSs (b + szS e) es
end
/-- A block. -/
def flB (b : Nat) (p : Int) (ss : Stms) : List Nd := flSs b ss ++ [⟨2, hdS b ss, -1, -1, -1, 0, p, ⟨#[]⟩⟩]
mutual
theorem flS_len (b : Nat) (nx : Int) : (e : Stm) → (flS b nx e).length = szS e
  | .vd .. | .ret .. | .prt .. | .exp .. => by simp [flS, szS, flE_len]
  | .asg .. => by simp [flS, szS, flE_len]; omega
  | .iff p e bp ss => by simp [flS, szS, flE_len, flSs_len (b + szE e) ss]; omega
  | .whl p e bp ss => by simp [flS, szS, flE_len, flSs_len (b + szE e) ss]; omega
  | .ife p e bp ss cp cs => by simp [flS, szS, flE_len, flSs_len (b + szE e) ss, flSs_len (b + szE e + (szSs ss + 1)) cs]; omega
theorem flSs_len (b : Nat) : (es : Stms) → (flSs b es).length = szSs es
  | .nil => by simp [flSs, szSs]
  | .cons e es => by simp [flSs, szSs, flS_len b _ e, flSs_len (b + szS e) es]
end
theorem flB_len (b : Nat) (p : Int) (ss : Stms) : (flB b p ss).length = szSs ss + 1 := by simp [flB, flSs_len]
theorem szS_pos (e : Stm) : 0 < szS e := by cases e <;> simp [szS]
theorem flS_split (b : Nat) (e : Stm) : ∃ (h : List Nd) (nd : Nd), h.length + 1 = szS e ∧ ∀ nx, flS b nx e = h ++ [{ nd with nx := nx }] := by
  have key : ∀ (h : List Nd) (nd : Nd), (∀ nx, flS b nx e = h ++ [{ nd with nx := nx }]) → ∃ (h : List Nd) (nd : Nd), h.length + 1 = szS e ∧ ∀ nx, flS b nx e = h ++ [{ nd with nx := nx }] := fun h nd hh => ⟨h, nd, by have := flS_len b 0 e; rw [hh] at this; simpa using this, hh⟩
  cases e with
  | vd s p t e => exact key (flE b (-1) e) ⟨3, rtE b e, -1, -1, 0, t, p, s⟩ fun nx => by simp [flS]
  | asg p x y => exact key (flE b (-1) x ++ flE (b + szE x) (-1) y) ⟨4, rtE b x, rtE (b + szE x) y, -1, 0, 0, p, ⟨#[]⟩⟩ fun nx => by simp [flS]
  | iff p e bp ss => exact key (flE b (-1) e ++ (flSs (b + szE e) ss ++ [⟨2, hdS (b + szE e) ss, -1, -1, -1, 0, bp, ⟨#[]⟩⟩])) ⟨5, rtE b e, ((b + szE e + szSs ss : Nat) : Int), -1, 0, 0, p, ⟨#[]⟩⟩ fun nx => by simp [flS]
  | ife p e bp ss cp cs => exact key (flE b (-1) e ++ (flSs (b + szE e) ss ++ [⟨2, hdS (b + szE e) ss, -1, -1, -1, 0, bp, ⟨#[]⟩⟩]) ++ (flSs (b + szE e + (szSs ss + 1)) cs ++ [⟨2, hdS (b + szE e + (szSs ss + 1)) cs, -1, -1, -1, 0, cp, ⟨#[]⟩⟩])) ⟨5, rtE b e, ((b + szE e + szSs ss : Nat) : Int), ((b + szE e + (szSs ss + 1) + szSs cs : Nat) : Int), 0, 0, p, ⟨#[]⟩⟩ fun nx => by simp [flS]
  | whl p e bp ss => exact key (flE b (-1) e ++ (flSs (b + szE e) ss ++ [⟨2, hdS (b + szE e) ss, -1, -1, -1, 0, bp, ⟨#[]⟩⟩])) ⟨6, rtE b e, ((b + szE e + szSs ss : Nat) : Int), -1, 0, 0, p, ⟨#[]⟩⟩ fun nx => by simp [flS]
  | ret p e => exact key (flE b (-1) e) ⟨7, rtE b e, -1, -1, 0, 0, p, ⟨#[]⟩⟩ fun nx => by simp [flS]
  | prt p e => exact key (flE b (-1) e) ⟨8, rtE b e, -1, -1, 0, 0, p, ⟨#[]⟩⟩ fun nx => by simp [flS]
  | exp e => exact key (flE b (-1) e) ⟨9, rtE b e, -1, -1, 0, 0, poE e, ⟨#[]⟩⟩ fun nx => by simp [flS]
/-- The root's Next is set. -/
theorem setNx_rootS (a : List Nd) (b : Nat) (nx x : Int) (e : Stm) (c : List Nd) : setNx (a ++ flS b nx e ++ c) (a.length + szS e - 1) x = a ++ flS b x e ++ c := by
  obtain ⟨h, nd, hl, hh⟩ := flS_split b e
  rw [hh nx, hh x]
  have := setNx_mid (a ++ h) { nd with nx := nx } c x
  rw [show a.length + szS e - 1 = (a ++ h).length by simp; omega]
  simp only [List.append_assoc, List.singleton_append] at this ⊢
  exact this
def snS : Stms → Stm → Stms
  | .nil, x => .cons x .nil
  | .cons e es, x => .cons e (snS es x)
theorem szSs_sn (es : Stms) (x : Stm) : szSs (snS es x) = szSs es + szS x := by
  induction es using Stms.rec (motive_1 := fun _ => True) with
  | nil => simp [snS, szSs]
  | cons e es _ ih => simp [snS, szSs, ih]; omega
  | _ => trivial
theorem hdS_sn (b : Nat) {es : Stms} (x : Stm) (h : es ≠ .nil) : hdS b (snS es x) = hdS b es := by
  cases es with
  | nil => exact absurd rfl h
  | cons => rfl
/-- One more argument is chained. -/
theorem lk_stms (es : Stms) (x : Stm) : ∀ (a : List Nd) (b : Nat), es ≠ .nil → setNx (a ++ flSs b es ++ flS (b + szSs es) (-1) x) (a.length + szSs es - 1) (rtS (b + szSs es) x) = a ++ flSs b (snS es x) := by
  induction es using Stms.rec (motive_1 := fun _ => True) with
  | nil => intro a b h; exact absurd rfl h
  | cons e es _ ih =>
    intro a b _
    by_cases hn : es = .nil
    · subst hn
      have := setNx_rootS a b (-1) (rtS (b + szS e) x) e (flS (b + szS e) (-1) x)
      simp only [flSs, snS, hdS, szSs, Nat.add_zero, List.append_nil] at this ⊢
      rw [this, List.append_assoc]
    · have h1 := ih (a ++ flS b (hdS (b + szS e) es) e) (b + szS e) hn
      simp only [flSs, snS, szSs]
      rw [hdS_sn _ _ hn]
      rw [← List.append_assoc a, ← List.append_assoc a]
      rw [List.length_append, flS_len] at h1
      rw [show a.length + (szS e + szSs es) - 1 = a.length + szS e + szSs es - 1 by omega, show b + (szS e + szSs es) = b + szS e + szSs es by omega]
      exact h1
  | _ => trivial
theorem rtS_nn (b : Nat) (e : Stm) : 0 ≤ rtS b e := by have := szS_pos e; unfold rtS; omega
theorem hdS_neg {b : Nat} {gs : Stms} : hdS b gs < 0 ↔ gs = .nil := by
  cases gs with
  | nil => simp [hdS]
  | cons e es => have := rtS_nn b e; simp only [hdS]; constructor
                 · intro h; omega
                 · intro h; cases h
def lvE : Exp → Prop
  | .var .. | .idx .. => True
  | _ => False
theorem lvE_of {e : Exp} (h : kiE e = 12 ∨ kiE e = 14) : lvE e := by cases e <;> simp [kiE, lvE] at *
mutual
def OkS (d : Nat) : Stm → Prop
  | .vd _ _ t e => (0 ≤ t ∧ t < 8) ∧ OkE 1 d e
  | .asg _ a b => lvE a ∧ OkE 1 d a ∧ OkE 1 d b
  | .iff _ e _ b | .whl _ e _ b => OkE 1 d e ∧ d < 8 ∧ OkSs (d + 1) b
  | .ife _ e _ b _ c => OkE 1 d e ∧ d < 8 ∧ OkSs (d + 1) b ∧ OkSs (d + 1) c
  | .ret _ e | .prt _ e | .exp e => OkE 1 d e
def OkSs (d : Nat) : Stms → Prop
  | .nil => True
  | .cons e es => OkS d e ∧ OkSs d es
end
theorem OkSs.sn {d : Nat} {x : Stm} : (es : Stms) → OkSs d es → OkS d x → OkSs d (snS es x)
  | .nil, _, h2 => by simp only [snS, OkSs]; exact ⟨h2, trivial⟩
  | .cons e es, h1, h2 => by
    simp only [snS, OkSs] at h1 ⊢
    exact ⟨h1.1, OkSs.sn es h1.2 h2⟩
def GB (n0 : List Nd) (d : Nat) (x : Int) (ms : List Nd) : Prop := ∃ p ss, d < 8 ∧ OkSs (d + 1) ss ∧ ms = n0 ++ flB n0.length p ss ∧ x = ((n0.length + szSs ss : Nat) : Int)
def GS (n0 : List Nd) (d : Nat) (x : Int) (ms : List Nd) : Prop := ∃ s, OkS d s ∧ ms = n0 ++ flS n0.length (-1) s ∧ x = rtS n0.length s
def Gs (q : Rq) (ns : List Nd) (x : Int) (ms : List Nd) : Prop := match q with
  | .block d => GB ns d x ms
  | .stmt d => GS ns d x ms
  | .blkL d f la => ∀ (n0 : List Nd) gs, ns = n0 ++ flSs n0.length gs → OkSs (d + 1) gs → f = hdS n0.length gs → (gs ≠ .nil → la = ((n0.length + szSs gs : Nat) : Int) - 1) → ∃ gs', OkSs (d + 1) gs' ∧ ms = n0 ++ flSs n0.length gs' ∧ x = hdS n0.length gs'
  | _ => True
theorem treeS {T : List Tok} (hv : ∀ i, kd T i = 2 → 0 ≤ (tk T i).val) : ∀ (n : Nat) (q : Rq) (i : Nat) (ns : List Nd) (x : Int) (j : Nat) (ms : List Nd), run T n (body T q i ns) = .ok x j ms → Gs q ns x ms := by
  intro n
  induction n using Nat.strongRecOn with
  | _ n ih =>
  intro q i ns x j ms h
  cases q with
  | block d =>
    simp only [body] at h
    split at h
    · obtain ⟨hd, h⟩ := run_ent h
      obtain ⟨m, z, j', ms', rfl, hb, hk⟩ := run_call h
      obtain ⟨gs, o1, rfl, rfl⟩ := ih m (by omega) (.blkL d (-1) (-1)) _ ns _ _ _ hb ns .nil (by simp [flSs]) (by simp [OkSs]) rfl (fun h => absurd rfl h)
      obtain ⟨rfl, _, rfl⟩ := run_fin (run_put hk)
      refine ⟨ps T i, gs, hd, o1, ?_, ?_⟩
      · simp only [flB, List.append_assoc]; rfl
      · simp [flSs_len]
    · rw [run_ret] at h; cases h
  | stmt d =>
    simp only [body] at h
    have one : ∀ {m : Nat} {i : Nat} {y : Int} {j' : Nat} {ms' : List Nd}, m < n → run T m (body T (.lev 1 d) i ns) = .ok y j' ms' → ∃ e, OkE 1 d e ∧ ms' = ns ++ flE ns.length (-1) e ∧ y = rtE ns.length e := fun hm hb => tree hv _ _ _ _ _ _ _ hb (by omega) (by omega)
    split at h
    · obtain ⟨t, i2, ht, h⟩ := run_typ (run_wnt h).2
      obtain ⟨m, y, j', ms', rfl, hb, hk⟩ := run_call (run_wnt h).2
      obtain ⟨e, o, rfl, rfl⟩ := one (by omega) hb
      obtain ⟨rfl, _, rfl⟩ := run_fin (run_put (run_wnt hk).2)
      refine ⟨.vd (tk T (stp T i)).text (ps T (stp T i)) t e, ?_, ?_, ?_⟩
      · simp only [OkS]; exact ⟨ht, o⟩
      · simp only [flS, List.append_assoc]
      · simp only [rtS, szS, List.length_append, flE_len]; omega
    split at h
    · obtain ⟨m, y, j', ms', rfl, hb, hk⟩ := run_call h
      obtain ⟨e, o, rfl, rfl⟩ := one (by omega) hb
      obtain ⟨m2, y2, j2, ms2, rfl, hb2, hk2⟩ := run_call hk
      obtain ⟨bp, ss, hd, ob, rfl, rfl⟩ := ih m2 (by omega) (.block d) _ _ _ _ _ hb2
      split at hk2
      · obtain ⟨m3, y3, j3, ms3, rfl, hb3, hk3⟩ := run_call hk2
        obtain ⟨cp, cs, _, oc, rfl, rfl⟩ := ih m3 (by omega) (.block d) _ _ _ _ _ hb3
        obtain ⟨rfl, _, rfl⟩ := run_fin (run_put hk3)
        refine ⟨.ife (ps T i) e bp ss cp cs, ?_, ?_, ?_⟩
        · simp only [OkS]; exact ⟨o, hd, ob, oc⟩
        · simp only [flS, flB, List.length_append, flE_len, flSs_len, List.append_assoc, List.length_singleton]
          rw [show ns.length + (szE e + (szSs ss + 1)) = ns.length + szE e + (szSs ss + 1) by omega]
        · simp only [rtS, szS, List.length_append, flE_len, flB_len]; omega
      · obtain ⟨rfl, _, rfl⟩ := run_fin (run_put hk2)
        refine ⟨.iff (ps T i) e bp ss, ?_, ?_, ?_⟩
        · simp only [OkS]; exact ⟨o, hd, ob⟩
        · simp only [flS, flB, List.length_append, flE_len, List.append_assoc]
        · simp only [rtS, szS, List.length_append, flE_len, flB_len]; omega
    split at h
    · obtain ⟨m, y, j', ms', rfl, hb, hk⟩ := run_call h
      obtain ⟨e, o, rfl, rfl⟩ := one (by omega) hb
      obtain ⟨m2, y2, j2, ms2, rfl, hb2, hk2⟩ := run_call hk
      obtain ⟨bp, ss, hd, ob, rfl, rfl⟩ := ih m2 (by omega) (.block d) _ _ _ _ _ hb2
      obtain ⟨rfl, _, rfl⟩ := run_fin (run_put hk2)
      refine ⟨.whl (ps T i) e bp ss, ?_, ?_, ?_⟩
      · simp only [OkS]; exact ⟨o, hd, ob⟩
      · simp only [flS, flB, List.length_append, flE_len, List.append_assoc]
      · simp only [rtS, szS, List.length_append, flE_len, flB_len]; omega
    split at h
    · obtain ⟨m, y, j', ms', rfl, hb, hk⟩ := run_call h
      obtain ⟨e, o, rfl, rfl⟩ := one (by omega) hb
      obtain ⟨rfl, _, rfl⟩ := run_fin (run_put (run_wnt hk).2)
      refine ⟨.ret (ps T i) e, ?_, ?_, ?_⟩
      · simp only [OkS]; exact o
      · simp only [flS, List.append_assoc]; rfl
      · simp only [rtS, szS, List.length_append, flE_len]; omega
    split at h
    · obtain ⟨m, y, j', ms', rfl, hb, hk⟩ := run_call h
      obtain ⟨e, o, rfl, rfl⟩ := one (by omega) hb
      obtain ⟨rfl, _, rfl⟩ := run_fin (run_put (run_wnt hk).2)
      refine ⟨.prt (ps T i) e, ?_, ?_, ?_⟩
      · simp only [OkS]; exact o
      · simp only [flS, List.append_assoc]; rfl
      · simp only [rtS, szS, List.length_append, flE_len]; omega
    · obtain ⟨m, y, j', ms', rfl, hb, hk⟩ := run_call h
      obtain ⟨e, o, rfl, rfl⟩ := one (by omega) hb
      obtain ⟨r1, r2⟩ := root_at ns e
      split at hk
      · rename_i hc
        rw [r1] at hc
        obtain ⟨m2, y2, j2, ms2, rfl, hb2, hk2⟩ := run_call hk
        obtain ⟨e2, o2, rfl, rfl⟩ := tree hv _ _ _ _ _ _ _ hb2 (by omega) (by omega)
        obtain ⟨rfl, _, rfl⟩ := run_fin (run_put (run_wnt hk2).2)
        refine ⟨.asg (ps T j') e e2, ?_, ?_, ?_⟩
        · simp only [OkS]; exact ⟨lvE_of hc.2, o, o2⟩
        · simp only [flS, List.length_append, flE_len, List.append_assoc]
        · simp only [rtS, szS, List.length_append, flE_len]; omega
      · obtain ⟨rfl, _, rfl⟩ := run_fin (run_put (run_wnt hk).2)
        refine ⟨.exp e, ?_, ?_, ?_⟩
        · simp only [OkS]; exact o
        · rw [r2]; simp only [flS, List.append_assoc]
        · simp only [rtS, szS, List.length_append, flE_len]; omega
  | blkL d f la =>
    intro n0 gs hns ho hf hla
    simp only [body] at h
    split at h
    · obtain ⟨rfl, _, rfl⟩ := run_fin h
      exact ⟨gs, ho, hns, hf⟩
    · obtain ⟨m, y, j', ms', rfl, hb, hk⟩ := run_call h
      obtain ⟨e1, o1, rfl, rfl⟩ := ih m (by omega) (.stmt (d + 1)) i ns _ _ _ hb
      have hlen : ns.length = n0.length + szSs gs := by rw [hns]; simp [flSs_len]
      by_cases hn : gs = .nil
      · subst hn
        have hf0 : f < 0 := by rw [hf]; simp [hdS]
        unfold lnk at hk
        rw [if_pos hf0] at hk
        obtain ⟨m2, y2, j2, ms2, rfl, hb2, hk3⟩ := run_call hk
        obtain ⟨rfl, _, rfl⟩ := run_fin hk3
        have en : ns = n0 := by rw [hns]; simp [flSs]
        subst en
        refine ih m2 (by omega) (.blkL d _ _) _ _ _ _ _ hb2 ns (.cons e1 .nil) ?_ ?_ ?_ ?_
        · simp [flSs, hdS]
        · simp only [OkSs]; exact ⟨o1, trivial⟩
        · simp [hdS]
        · intro _; simp [rtS, szSs]
      · have hf0 : ¬ f < 0 := by rw [hf, hdS_neg]; exact hn
        unfold lnk at hk
        rw [if_neg hf0] at hk
        obtain ⟨m2, y2, j2, ms2, rfl, hb2, hk3⟩ := run_call hk
        obtain ⟨rfl, _, rfl⟩ := run_fin hk3
        have hpos : 0 < szSs gs := by
          cases gs with
          | nil => exact absurd rfl hn
          | cons e es => have := szS_pos e; simp [szSs]; omega
        have el : la.toNat = n0.length + szSs gs - 1 := by rw [hla hn]; omega
        refine ih m2 (by omega) (.blkL d _ _) _ _ _ _ _ hb2 n0 (snS gs e1) ?_ (OkSs.sn gs ho o1) ?_ ?_
        · rw [el, hlen]
          have := lk_stms gs e1 n0 n0.length hn
          rw [← this, hns]
        · rw [hf, hdS_sn _ _ hn]
        · intro _
          rw [szSs_sn]
          unfold rtS
          rw [hlen]
          omega
  | _ => trivial
end Go.Proofs.Qxb6500277aGreat
