/- The law: answers compared. -/
import Derived.Test.Qxb6500276aGreatCB8c
import Derived.WalkLawsBesides
namespace Go.Proofs.Qxb6500276aGreat
open Go Go.RowKit

/-- A function's record as the law sees it: any numbers. -/
structure Fi where
  n : Int
  r : Int
  p : Int
  q : Int
  l : Int
  m : Int
  s : ByteArray
def fiC (x : Fi) (o : Nat) : Value := match o with | 0 => .int .i64 x.n | 1 => .int .i64 x.r | 2 => .int .i64 x.p | 3 => .int .i64 x.q | 4 => .int .i64 x.l | 5 => .int .i64 x.m | _ => .string x.s
def fi (x : FR) : Fi := ⟨x.1.node, x.1.ret, x.1.pi, x.1.pr, x.2.1, x.2.2, x.1.name⟩
def FiP (f : Nat → Value) (rs : List Fi) : Prop := ∀ j (h : j < rs.length), ∀ o, o < 7 → f (j * 7 + o) = fiC rs[j] o
def FLI (w : World) (v : Value) (rs : List Fi) : Prop := (v = .slice none 0 0 ∧ rs = []) ∨ ∃ b f, v = .slice (some ⟨b, 0, none⟩) rs.length rs.length ∧ Blk w b (rs.length * 7) f ∧ FiP f rs ∧ 0 < rs.length
theorem FLI.frame {w w' : World} {v : Value} {rs : List Fi} {S : Nat → Prop} (h : FLI w v rs) (k : Fr S w w') (hb : ∀ b, isBlk v b → ¬ S b) : FLI w' v rs := by
  rcases h with h | ⟨b, f, rfl, h1, h2⟩
  · exact .inl h
  · exact .inr ⟨b, f, rfl, h1.frame k (hb b ⟨_, _, rfl⟩), h2⟩
theorem FLV.fi {w : World} {v : Value} {rs : List FR} (h : FLV w v rs) : FLI w v (rs.map Go.Proofs.Qxb6500276aGreat.fi) := by
  rcases h with ⟨rfl, rfl⟩ | ⟨b, f, rfl, h1, h2, h3⟩
  · exact .inl ⟨rfl, rfl⟩
  · refine .inr ⟨b, f, by simp, by simpa using h1, fun j hj o ho => ?_, by simpa using h3⟩
    rw [h2 j (by simpa using hj) o ho]
    rw [List.getElem_map]
    rcases lt7c ho with rfl | rfl | rfl | rfl | rfl | rfl | rfl <;> rfl
/-- Where an answer's lists lie, and what an answer is. -/
structure Ad where
  v : Option Addr
  t : Option Addr
  r : Option Addr
  f : Option Addr
structure Dn where
  ns : List Nd
  root : Int
  ty : List Int
  rf : List Int
  rs : List Fi
  main : Int
  err : Int
  pos : Int
abbrev Cr := Ad × Dn
def vV (x : Cr) : Value := .slice x.1.v x.2.ns.length x.2.ns.length
def tV (x : Cr) : Value := .slice x.1.t x.2.ty.length x.2.ty.length
def rV (x : Cr) : Value := .slice x.1.r x.2.rf.length x.2.rf.length
def fV (x : Cr) : Value := .slice x.1.f x.2.rs.length x.2.rs.length
def crC (x : Cr) (o : Nat) : Value := match o with | 0 => vV x | 1 => .int .i64 x.2.root | 2 => .int .i64 0 | 3 => .int .i64 0 | 4 => tV x | 5 => rV x | 6 => fV x | 7 => .int .i64 x.2.main | 8 => .int .i64 x.2.err | _ => .int .i64 x.2.pos
def crV (x : Cr) : Value := chkV (vV x) x.2.root 0 0 (tV x) (rV x) (fV x) x.2.main x.2.err x.2.pos
def crB (x : Cr) : Obj := .cells #[vV x, .int .i64 x.2.root, .int .i64 0, .int .i64 0, tV x, rV x, fV x, .int .i64 x.2.main, .int .i64 x.2.err, .int .i64 x.2.pos] 47
theorem crB_blk (w : World) (x : Cr) : Blk (w.alloc (crB x)) w.heap.size 10 (crC x) := Blk.new w _ _ _ fun o ho => by
  have ho : o < 10 := ho
  rcases lt10 ho with rfl | rfl | rfl | rfl | rfl | rfl | rfl | rfl | rfl | rfl <;> rfl
structure AnsA (w : World) (x : Cr) : Prop where
  hv : NLV w (vV x) x.2.ns
  ht : ILV w (tV x) x.2.ty
  hr : ILV w (rV x) x.2.rf
  hf : FLI w (fV x) x.2.rs
  ap : Apart (vV x) (tV x) (rV x) (fV x)
  nl : x.2.ns.length ≤ 200
  tl : x.2.ty.length ≤ 200
  rl : x.2.rf.length ≤ 200
  fl : x.2.rs.length ≤ 200
def inA (x : Cr) (b : Nat) : Prop := inB4 (vV x) (tV x) (rV x) (fV x) b
theorem AnsA.frame {w w' : World} {x : Cr} {S : Nat → Prop} (h : AnsA w x) (k : Fr S w w') (hb : ∀ b, inA x b → ¬ S b) : AnsA w' x :=
  ⟨h.hv.frame k fun b hb' => hb b (.inl hb'), h.ht.frame k fun b hb' => hb b (.inr (.inl hb')), h.hr.frame k fun b hb' => hb b (.inr (.inr (.inl hb'))), h.hf.frame k fun b hb' => hb b (.inr (.inr (.inr hb'))), h.ap, h.nl, h.tl, h.rl, h.fl⟩
theorem ILV.sl {w : World} {v : Value} {l : List Int} (h : ILV w v l) : ∃ a, v = .slice a l.length l.length := by
  rcases h with ⟨rfl, rfl⟩ | ⟨b, rfl, _⟩
  · exact ⟨_, rfl⟩
  · exact ⟨_, rfl⟩
theorem FLI.sl {w : World} {v : Value} {l : List Fi} (h : FLI w v l) : ∃ a, v = .slice a l.length l.length := by
  rcases h with ⟨rfl, rfl⟩ | ⟨b, f, rfl, _⟩
  · exact ⟨_, rfl⟩
  · exact ⟨_, rfl⟩
theorem NLV.get {w : World} {v : Value} {ns : List Nd} (h : NLV w v ns) {k : Nat} (hk : k < ns.length) : ∃ b f, v = .slice (some ⟨b, 0, none⟩) ns.length ns.length ∧ Blk w b (ns.length * 8) f ∧ NdP f ns := by
  rcases h with ⟨rfl, rfl⟩ | ⟨b, f, rfl, h1, h2, _⟩
  · simp at hk
  · exact ⟨b, f, rfl, h1, h2⟩
theorem ILV.get {w : World} {v : Value} {l : List Int} (h : ILV w v l) {k : Nat} (hk : k < l.length) : ∃ b, v = .slice (some ⟨b, 0, none⟩) l.length l.length ∧ Blk w b l.length (iL l) := by
  rcases h with ⟨rfl, rfl⟩ | ⟨b, rfl, h1, _⟩
  · simp at hk
  · exact ⟨b, rfl, h1⟩
theorem FLI.get {w : World} {v : Value} {l : List Fi} (h : FLI w v l) {k : Nat} (hk : k < l.length) : ∃ b f, v = .slice (some ⟨b, 0, none⟩) l.length l.length ∧ Blk w b (l.length * 7) f ∧ FiP f l := by
  rcases h with ⟨rfl, rfl⟩ | ⟨b, f, rfl, h1, h2, _⟩
  · simp at hk
  · exact ⟨b, f, rfl, h1, h2⟩
/-- An answer of a check, as the law sees it. -/
theorem AnsM.law {w : World} {v t r f : Value} {ns : List Nd} {ty rf : List Int} {rs : List FR} (h : AnsM w v t r f ns ty rf rs) (root main err pos : Int) : ∃ a : Ad, v = vV (a, ⟨ns, root, ty, rf, rs.map fi, main, err, pos⟩) ∧ t = tV (a, ⟨ns, root, ty, rf, rs.map fi, main, err, pos⟩) ∧ r = rV (a, ⟨ns, root, ty, rf, rs.map fi, main, err, pos⟩) ∧ f = fV (a, ⟨ns, root, ty, rf, rs.map fi, main, err, pos⟩) ∧ AnsA w (a, ⟨ns, root, ty, rf, rs.map fi, main, err, pos⟩) := by
  obtain ⟨hv, ht, hr, hf, ap, nl, tl, rl, fl⟩ := h
  have hf2 := hf.fi
  obtain ⟨a1, e1⟩ := hv.sl
  obtain ⟨a2, e2⟩ := ht.sl
  obtain ⟨a3, e3⟩ := hr.sl
  obtain ⟨a4, e4⟩ := hf2.sl
  refine ⟨⟨a1, a2, a3, a4⟩, e1, e2, e3, e4, ?_⟩
  refine ⟨?_, ?_, ?_, ?_, ?_, nl, tl, rl, by simpa using fl⟩
  · show NLV w (.slice a1 ns.length ns.length) ns; rw [← e1]; exact hv
  · show ILV w (.slice a2 ty.length ty.length) ty; rw [← e2]; exact ht
  · show ILV w (.slice a3 rf.length rf.length) rf; rw [← e3]; exact hr
  · show FLI w (.slice a4 (rs.map fi).length (rs.map fi).length) (rs.map fi); rw [← e4]; exact hf2
  · show Apart (.slice a1 ns.length ns.length) (.slice a2 ty.length ty.length) (.slice a3 rf.length rf.length) (.slice a4 (rs.map fi).length (rs.map fi).length)
    rw [← e1, ← e2, ← e3, ← e4]; exact ap
set_option maxRecDepth 100000 in
set_option maxHeartbeats 4000000 in
theorem sameInts {w : World} {v u : Value} {l : List Int} (h1 : ILV w v l) (h2 : ILV w u l) (hl : l.length ≤ 200) : Calls Tryz.prog 56 #[v, u] w fun x w' => x = .returned (.bool true) ∧ Fr (fun _ => False) w w' := by
  obtain ⟨a1, e1⟩ := h1.sl
  obtain ⟨a2, e2⟩ := h2.sl
  have H1 : Hid (ILV w v l) := h1
  have H2 : Hid (ILV w u l) := h2
  clear h1 h2
  go_enter Tryz.func56, Tryz.ntmps56
  rw [e1, e2]
  go_wp2_with fail
  go_loopg [5] l.length (fun gk kv wr => ∃ k : Nat, kv = .int .i64 k ∧ k + gk = l.length ∧ Fr (fun _ => False) w wr)
  case atStart => exact ⟨0, rfl, by omega, Fr.refl _ _⟩
  case round =>
    obtain ⟨k, rfl, hkg, FJ⟩ := hrel
    have Hkg : Hid _ := hkg
    have HFJ : Hid _ := FJ
    by_cases hk : k < l.length
    · have z1 : decide ((k : Int) < (l.length : Int)) = true := decide_eq_true (by omega)
      have z2 : decide (k < l.length) = true := decide_eq_true hk
      obtain ⟨b, e3, hb⟩ := (H1.out.frame FJ (fun _ _ h => h)).get hk
      obtain ⟨b', e4, hb'⟩ := (H2.out.frame FJ (fun _ _ h => h)).get hk
      have e5 := e1.symm.trans e3
      have e6 := e2.symm.trans e4
      cases e5
      cases e6
      have m0 := hb.cell (o := k) hk
      have n0 := hb'.cell (o := k) hk
      simp only [iL] at m0 n0
      have lb := hb.lt
      have lb' := hb'.lt
      generalize l.getD k 0 = xx at *
      have hk2 : k < 200 := by omega
      clear hkg hb hb' e3 e4 FJ
      go_wp2_with fail
      refine wp_region_text (by kernel_rfl) (by kernel_rfl) ?_
      go_wp2_with fail
      refine ⟨by kernel_rfl, ?_⟩
      go_wp2_with fail
      go_roundg (gk - 1)
      case measure => have := Hkg.out; have := of_decide_eq_true z2; omega
      case rel => exact ⟨k + 1, by simp, by have := Hkg.out; have := of_decide_eq_true z2; omega, HFJ.out.drew⟩
    · have z1 : decide ((k : Int) < (l.length : Int)) = false := decide_eq_false (by omega)
      have z2 : decide (k < l.length) = false := decide_eq_false hk
      clear hkg hk
      go_wp2_with fail
      go_ret
      exact ⟨rfl, HFJ.out⟩
set_option maxRecDepth 100000 in
set_option maxHeartbeats 2000000 in
theorem sameNode (nd : Nd) (w : World) : Calls Tryz.prog 77 #[ndV nd, ndV nd] w fun e w' => e = .returned (.bool true) ∧ Fr (fun _ => False) w w' := by
  obtain ⟨k, a, b, c, n, v, p, s⟩ := nd
  unfold ndV
  go_enter Tryz.func77, Tryz.ntmps77
  go_wp2_with fail
  go_ret
  exact ⟨by simp, ((Fr.refl _ _).alloc _).alloc _⟩
def box4v (v : Value) (r e p : Int) : Obj := .cells #[v, .int .i64 r, .int .i64 e, .int .i64 p] 43
set_option maxRecDepth 100000 in
set_option maxHeartbeats 4000000 in
theorem sameTree {w : World} {v u : Value} {ns : List Nd} {r e p : Int} (h1 : NLV w v ns) (h2 : NLV w u ns) (hl : ns.length ≤ 200) : Calls Tryz.prog 55 #[treeV v r e p, treeV u r e p] w fun x w' => x = .returned (.bool true) ∧ Fr (fun _ => False) w w' := by
  obtain ⟨a1, e1⟩ := h1.sl
  obtain ⟨a2, e2⟩ := h2.sl
  have F0 := ((Fr.refl (fun _ => False) w).alloc (box4v v r e p)).alloc (box4v u r e p)
  have X1 : Blk (w.alloc (box4v v r e p)) w.heap.size 4 (trC v r e p) := trC_blk w v r e p
  have X2 : Blk ((w.alloc (box4v v r e p)).alloc (box4v u r e p)) (w.heap.size + 1) 4 (trC u r e p) := by
    have := trC_blk (w.alloc (box4v v r e p)) u r e p
    rw [World.size_alloc] at this
    exact this
  have X1' := X1.alloc (box4v u r e p)
  have H1 : Hid (NLV w v ns) := h1
  have H2 : Hid (NLV w u ns) := h2
  unfold treeV
  go_enter Tryz.func55, Tryz.ntmps55
  rw [e1, e2]
  go_wp2_with fail
  have HF0 : Hid _ := F0
  have HX1 : Hid (Blk _ w.heap.size 4 _) := X1'
  have HX2 : Hid (Blk _ (w.heap.size + 1) 4 _) := X2
  clear F0 X1 X2 X1' h1 h2
  go_loopg [5] ns.length (fun gk kv wr => ∃ k : Nat, kv = .int .i64 k ∧ k + gk = ns.length ∧ Fr (fun _ => False) ((w.alloc (box4v v r e p)).alloc (box4v u r e p)) wr)
  case atStart => exact ⟨0, rfl, by omega, by unfold box4v; rw [e1, e2]; exact Fr.refl _ _⟩
  case round =>
    obtain ⟨k, rfl, hkg, FJ⟩ := hrel
    have Hkg : Hid _ := hkg
    have Y1 := HX1.out.frame FJ (fun h => h)
    have Y2 := HX2.out.frame FJ (fun h => h)
    have c1 := Y1.cell (o := 0) (by omega)
    have c2 := Y2.cell (o := 0) (by omega)
    simp only [trC] at c1 c2
    rw [e1] at c1
    rw [e2] at c2
    have l1 := Y1.lt
    have l2 := Y2.lt
    have HFJ : Hid _ := FJ
    by_cases hk : k < ns.length
    · have z1 : decide ((k : Int) < (ns.length : Int)) = true := decide_eq_true (by omega)
      have z2 : decide (k < ns.length) = true := decide_eq_true hk
      obtain ⟨b, f, e3, hb, hp⟩ := (H1.out.frame (HF0.out.trans FJ (fun _ _ h => h)) (fun _ _ h => h)).get hk
      obtain ⟨b', f', e4, hb', hp'⟩ := (H2.out.frame (HF0.out.trans FJ (fun _ _ h => h)) (fun _ _ h => h)).get hk
      have e5 := e1.symm.trans e3
      have e6 := e2.symm.trans e4
      cases e5
      cases e6
      obtain ⟨m0, m1, m2, m3, m4, m5, m6, m7⟩ := hb.node hp hk (by omega)
      obtain ⟨n0, n1, n2, n3, n4, n5, n6, n7⟩ := hb'.node hp' hk (by omega)
      have lb := hb.lt
      have lb' := hb'.lt
      generalize ns[k] = nd at *
      have hk2 : k < 200 := by omega
      clear hkg hb hb' hp hp' Y1 Y2 e3 e4 FJ
      go_wp2_with fail
      refine wp_region_text (by kernel_rfl) (by kernel_rfl) ?_
      go_wp2_with fail
      refine (sameNode nd _).mono ?_
      rintro x w2 ⟨rfl, f2⟩
      go_wp2_with fail
      refine ⟨by kernel_rfl, ?_⟩
      go_wp2_with fail
      go_roundg (gk - 1)
      case measure => have := Hkg.out; have := of_decide_eq_true z2; omega
      case rel => exact ⟨k + 1, by simp, by have := Hkg.out; have := of_decide_eq_true z2; omega, (HFJ.out.drew).trans f2 (fun _ _ h => h)⟩
    · have z1 : decide ((k : Int) < (ns.length : Int)) = false := decide_eq_false (by omega)
      have z2 : decide (k < ns.length) = false := decide_eq_false hk
      clear hkg hk
      go_wp2_with fail
      go_ret
      exact ⟨rfl, HF0.out.trans HFJ.out (fun _ _ h => h)⟩
def fiV (x : Fi) : Value := .agg #[.int .i64 x.n, .int .i64 x.r, .int .i64 x.p, .int .i64 x.q, .int .i64 x.l, .int .i64 x.m, .string x.s]
set_option maxRecDepth 100000 in
set_option maxHeartbeats 2000000 in
theorem sameFunc (x : Fi) (w : World) : Calls Tryz.prog 78 #[fiV x, fiV x] w fun e w' => e = .returned (.bool true) ∧ Fr (fun _ => False) w w' := by
  obtain ⟨a, b, c, d, l, m, s⟩ := x
  unfold fiV
  go_enter Tryz.func78, Tryz.ntmps78
  go_wp2_with fail
  go_ret
  exact ⟨by simp, ((Fr.refl _ _).alloc _).alloc _⟩
set_option maxRecDepth 100000 in
set_option maxHeartbeats 4000000 in
theorem sameFuncs {w : World} {v u : Value} {l : List Fi} (h1 : FLI w v l) (h2 : FLI w u l) (hl : l.length ≤ 200) : Calls Tryz.prog 57 #[v, u] w fun x w' => x = .returned (.bool true) ∧ Fr (fun _ => False) w w' := by
  obtain ⟨a1, e1⟩ := h1.sl
  obtain ⟨a2, e2⟩ := h2.sl
  have H1 : Hid (FLI w v l) := h1
  have H2 : Hid (FLI w u l) := h2
  clear h1 h2
  go_enter Tryz.func57, Tryz.ntmps57
  rw [e1, e2]
  go_wp2_with fail
  go_loopg [5] l.length (fun gk kv wr => ∃ k : Nat, kv = .int .i64 k ∧ k + gk = l.length ∧ Fr (fun _ => False) w wr)
  case atStart => exact ⟨0, rfl, by omega, Fr.refl _ _⟩
  case round =>
    obtain ⟨k, rfl, hkg, FJ⟩ := hrel
    have Hkg : Hid _ := hkg
    have HFJ : Hid _ := FJ
    by_cases hk : k < l.length
    · have z1 : decide ((k : Int) < (l.length : Int)) = true := decide_eq_true (by omega)
      have z2 : decide (k < l.length) = true := decide_eq_true hk
      obtain ⟨b, f, e3, hb, hp⟩ := (H1.out.frame FJ (fun _ _ h => h)).get hk
      obtain ⟨b', f', e4, hb', hp'⟩ := (H2.out.frame FJ (fun _ _ h => h)).get hk
      have e5 := e1.symm.trans e3
      have e6 := e2.symm.trans e4
      cases e5
      cases e6
      have m0 : wr.cell? ⟨b, k * 7, none⟩ = some (.int .i64 l[k].n) := by rw [hb.cell (by omega)]; exact congrArg some (hp k hk 0 (by omega))
      have m1 : wr.cell? ⟨b, k * 7 + 1, none⟩ = some (.int .i64 l[k].r) := by rw [hb.cell (by omega)]; exact congrArg some (hp k hk 1 (by omega))
      have m2 : wr.cell? ⟨b, k * 7 + 2, none⟩ = some (.int .i64 l[k].p) := by rw [hb.cell (by omega)]; exact congrArg some (hp k hk 2 (by omega))
      have m3 : wr.cell? ⟨b, k * 7 + 3, none⟩ = some (.int .i64 l[k].q) := by rw [hb.cell (by omega)]; exact congrArg some (hp k hk 3 (by omega))
      have m4 : wr.cell? ⟨b, k * 7 + 4, none⟩ = some (.int .i64 l[k].l) := by rw [hb.cell (by omega)]; exact congrArg some (hp k hk 4 (by omega))
      have m5 : wr.cell? ⟨b, k * 7 + 5, none⟩ = some (.int .i64 l[k].m) := by rw [hb.cell (by omega)]; exact congrArg some (hp k hk 5 (by omega))
      have m6 : wr.cell? ⟨b, k * 7 + 6, none⟩ = some (.string l[k].s) := by rw [hb.cell (by omega)]; exact congrArg some (hp k hk 6 (by omega))
      have n0 : wr.cell? ⟨b', k * 7, none⟩ = some (.int .i64 l[k].n) := by rw [hb'.cell (by omega)]; exact congrArg some (hp' k hk 0 (by omega))
      have n1 : wr.cell? ⟨b', k * 7 + 1, none⟩ = some (.int .i64 l[k].r) := by rw [hb'.cell (by omega)]; exact congrArg some (hp' k hk 1 (by omega))
      have n2 : wr.cell? ⟨b', k * 7 + 2, none⟩ = some (.int .i64 l[k].p) := by rw [hb'.cell (by omega)]; exact congrArg some (hp' k hk 2 (by omega))
      have n3 : wr.cell? ⟨b', k * 7 + 3, none⟩ = some (.int .i64 l[k].q) := by rw [hb'.cell (by omega)]; exact congrArg some (hp' k hk 3 (by omega))
      have n4 : wr.cell? ⟨b', k * 7 + 4, none⟩ = some (.int .i64 l[k].l) := by rw [hb'.cell (by omega)]; exact congrArg some (hp' k hk 4 (by omega))
      have n5 : wr.cell? ⟨b', k * 7 + 5, none⟩ = some (.int .i64 l[k].m) := by rw [hb'.cell (by omega)]; exact congrArg some (hp' k hk 5 (by omega))
      have n6 : wr.cell? ⟨b', k * 7 + 6, none⟩ = some (.string l[k].s) := by rw [hb'.cell (by omega)]; exact congrArg some (hp' k hk 6 (by omega))
      have lb := hb.lt
      have lb' := hb'.lt
      have HSF : Hid _ := sameFunc l[k]
      unfold fiV at HSF
      generalize l[k] = nd at *
      have hk2 : k < 200 := by omega
      clear hkg hb hb' hp hp' e3 e4 FJ
      go_wp2_with fail
      refine wp_region_text (by kernel_rfl) (by kernel_rfl) ?_
      go_wp2_with fail
      refine (HSF.out _).mono ?_
      rintro x w2 ⟨rfl, f2⟩
      go_wp2_with fail
      refine ⟨by kernel_rfl, ?_⟩
      go_wp2_with fail
      go_roundg (gk - 1)
      case measure => have := Hkg.out; have := of_decide_eq_true z2; omega
      case rel => exact ⟨k + 1, by simp, by have := Hkg.out; have := of_decide_eq_true z2; omega, (HFJ.out.drew).trans f2 (fun _ _ h => h)⟩
    · have z1 : decide ((k : Int) < (l.length : Int)) = false := decide_eq_false (by omega)
      have z2 : decide (k < l.length) = false := decide_eq_false hk
      clear hkg hk
      go_wp2_with fail
      go_ret
      exact ⟨rfl, HFJ.out⟩
end Go.Proofs.Qxb6500276aGreat
