/- The compiler, plainly: a list of instructions and a stack of work. -/
import Derived.Test.Qxb6500283aGreatPL5
import Derived.Test.Qxb6500283aGreatX2
namespace Go.Proofs.Qxb6500283aGreat

structure Wk where
  what : Nat
  a : Nat
  b : Nat
abbrev CSt := List In × List Wk
def chIn (P : BSet) : In := ⟨0, 0, 0, (wd P 0 : Nat), (wd P 1 : Nat), (wd P 2 : Nat), (wd P 3 : Nat)⟩
def opIn (o x y : Int) : In := ⟨o, x, y, 0, 0, 0, 0⟩
def setX (x : In) (v : Int) : In := { x with x := v }
def setY (x : In) (v : Int) : In := { x with y := v }
def modL (l : List In) (i : Nat) (f : In → In) : List In := match l[i]? with | none => l | some x => l.set i (f x)
def nodeP (cl : List Nd) (n : Nat) (code : List In) (todo : List Wk) : CSt :=
  match cl[n]? with
  | none => (code, todo)
  | some x =>
    if x.kind = 1 then (code ++ [chIn x.st], todo)
    else if x.kind = 2 then (code ++ [opIn 4 0 0], todo)
    else if x.kind = 3 then (code ++ [opIn 5 0 0], todo)
    else if x.kind = 4 then (code, ⟨0, x.a.toNat, 0⟩ :: ⟨0, x.b.toNat, 0⟩ :: todo)
    else if x.kind = 5 then (code ++ [opIn 1 ((code.length + 1 : Nat) : Int) (-1)], ⟨0, x.a.toNat, 0⟩ :: ⟨1, code.length, x.b.toNat⟩ :: todo)
    else if x.kind = 6 then (code ++ [if x.lz then opIn 1 (-1) ((code.length + 1 : Nat) : Int) else opIn 1 ((code.length + 1 : Nat) : Int) (-1)], ⟨0, x.a.toNat, 0⟩ :: ⟨3, code.length, if x.lz then 1 else 0⟩ :: todo)
    else if x.kind = 7 then (code ++ [opIn 3 ((2 * x.cap.toNat : Nat) : Int) 0], ⟨0, x.a.toNat, 0⟩ :: ⟨4, 2 * x.cap.toNat + 1, 0⟩ :: todo)
    else (code, todo)
def stepP (cl : List Nd) (w : Wk) (code : List In) (todo : List Wk) : CSt :=
  if w.what = 0 then nodeP cl w.a code todo
  else if w.what = 1 then (modL (code ++ [opIn 2 (-1) 0]) w.a (fun x => setY x ((code.length + 1 : Nat) : Int)), ⟨0, w.b, 0⟩ :: ⟨2, code.length, 0⟩ :: todo)
  else if w.what = 2 then (modL code w.a (fun x => setX x (code.length : Nat)), todo)
  else if w.what = 3 then (modL (code ++ [opIn 2 (w.a : Nat) 0]) w.a (fun x => if w.b = 1 then setX x ((code.length + 1 : Nat) : Int) else setY x ((code.length + 1 : Nat) : Int)), todo)
  else if w.what = 4 then (code ++ [opIn 3 (w.a : Nat) 0], todo)
  else (code, todo)
inductive RunC' (cl : List Nd) : Nat → CSt → CSt → Prop
  | nil {s : CSt} : RunC' cl 0 s s
  | step {n : Nat} {w : Wk} {code : List In} {todo : List Wk} {s : CSt} : RunC' cl n (stepP cl w code todo) s → RunC' cl (n + 1) (code, w :: todo) s
theorem RunC'.trans {cl : List Nd} {n m : Nat} {a b c : CSt} (h1 : RunC' cl n a b) (h2 : RunC' cl m b c) : RunC' cl (n + m) a c := by
  induction h1 with
  | nil => rw [Nat.zero_add]; exact h2
  | step _ ih => rw [show ∀ x y : Nat, x + 1 + y = (x + y) + 1 by omega]; exact .step (ih h2)
def sizeR : Rx → Nat
  | .cat a b => sizeR a + sizeR b + 1
  | .alt a b => sizeR a + sizeR b + 1
  | .rep a _ _ _ => sizeR a + 1
  | .grp a _ => sizeR a + 1
  | _ => 1
/-- What the code of a tree is, wherever it lies. -/
structure SegOk (base : Nat) (seg : List In) (r : Rx) : Prop where
  code : ∀ p : List In, (∀ j, j < seg.length → p[base + j]? = seg[j]?) → CdAt p base r (base + seg.length)
  ok : ∀ m, base + seg.length + 1 ≤ m → ∀ j (h : j < seg.length), okIn m (base + j) seg[j]
  len : seg.length ≤ 2 * sizeR r
theorem modL_at (a : List In) (x : In) (b : List In) (f : In → In) : modL (a ++ x :: b) a.length f = a ++ f x :: b := by
  unfold modL
  have : (a ++ x :: b)[a.length]? = some x := by simp
  rw [this]
  simp
theorem modL_at' {i : Nat} (a : List In) (x : In) (b : List In) (f : In → In) (h : i = a.length) : modL (a ++ x :: b) i f = a ++ f x :: b := by
  rw [h]; exact modL_at a x b f
theorem hasB_wd (P : BSet) (c : Nat) (hc : c < 256) : hasB (wd P 0 : Nat) (wd P 1 : Nat) (wd P 2 : Nat) (wd P 3 : Nat) c = P c := by
  have hw : word (wd P 0 : Nat) (wd P 1 : Nat) (wd P 2 : Nat) (wd P 3 : Nat) (c / 64) = (wd P (c / 64) : Nat) := by
    obtain e | e | e | e : c / 64 = 0 ∨ c / 64 = 1 ∨ c / 64 = 2 ∨ c / 64 = 3 := by omega
    all_goals rw [e]; rfl
  unfold hasB
  rw [hw, has_bit]
  cases P c <;> rfl
/-- Only star repeats; group numbers 1 to 3. -/
def RxK : Rx → Prop
  | .cat a b => RxK a ∧ RxK b
  | .alt a b => RxK a ∧ RxK b
  | .rep a mn mx _ => RxK a ∧ mn = 0 ∧ mx = -1
  | .grp a k => RxK a ∧ 1 ≤ k ∧ k ≤ 3
  | _ => True
theorem seg_get {a : List In} {x : In} {b : List In} {base : Nat} {p : List In} {seg : List In} (he : seg = a ++ x :: b) (h : ∀ j, j < seg.length → p[base + j]? = seg[j]?) : p[base + a.length]? = some x ∧ (∀ j, j < a.length → p[base + j]? = a[j]?) ∧ ∀ j, j < b.length → p[base + a.length + 1 + j]? = b[j]? := by
  subst he
  refine ⟨?_, fun j hj => ?_, fun j hj => ?_⟩
  · rw [h a.length (by simp)]; simp
  · rw [h j (by simp; omega), List.getElem?_append_left hj]
  · have := h (a.length + 1 + j) (by simp; omega)
    rw [show base + (a.length + 1 + j) = base + a.length + 1 + j by omega] at this
    rw [this, List.getElem?_append_right (by omega), show a.length + 1 + j - a.length = j + 1 by omega, List.getElem?_cons_succ]
theorem ok_app {Q : Nat → In → Prop} {base : Nat} {a b : List In} (ha : ∀ j (h : j < a.length), Q (base + j) a[j]) (hb : ∀ j (h : j < b.length), Q (base + a.length + j) b[j]) : ∀ j (h : j < (a ++ b).length), Q (base + j) (a ++ b)[j] := by
  intro j hj
  by_cases hl : j < a.length
  · rw [List.getElem_append_left hl]; exact ha j hl
  · rw [List.length_append] at hj
    rw [List.getElem_append_right (by omega)]
    have := hb (j - a.length) (by omega)
    rw [show base + a.length + (j - a.length) = base + j by omega] at this
    exact this
theorem ok_cons {Q : Nat → In → Prop} {base : Nat} {x : In} {b : List In} (hx : Q base x) (hb : ∀ j (h : j < b.length), Q (base + 1 + j) b[j]) : ∀ j (h : j < (x :: b).length), Q (base + j) (x :: b)[j] := by
  intro j hj
  cases j with
  | zero => exact hx
  | succ j =>
    have := hb j (by simpa using hj)
    rw [show base + 1 + j = base + (j + 1) by omega] at this
    exact this
theorem comp {cl : List Nd} {n : Nat} {r : Rx} (h : IsT cl n r) : RxK r → ∀ code todo, ∃ k seg, RunC' cl k (code, ⟨0, n, 0⟩ :: todo) (code ++ seg, todo) ∧ k ≤ 3 * sizeR r ∧ SegOk code.length seg r := by
  induction h with
  | emp h e =>
    intro _ code todo
    refine ⟨1, [], .step ?_, by simp [sizeR], ⟨fun p _ => by simp; exact .emp, fun m _ j hj => by simp at hj, by simp⟩⟩
    simp only [stepP, nodeP, if_true, h, e]
    simp
    exact .nil
  | @set k n h e =>
    intro _ code todo
    refine ⟨1, [chIn n.st], .step ?_, by simp [sizeR], ⟨fun p hp => ?_, fun m hm => ok_cons (b := []) ?_ (fun j hj => by simp at hj), by simp [sizeR]⟩⟩
    · simp only [stepP, nodeP, if_true, h, e]
      exact .nil
    · have := (seg_get (a := []) (b := []) rfl hp).1
      exact .set (x := chIn n.st) (by simpa using this) rfl (fun c hc => hasB_wd n.st c hc)
    · exact .inl ⟨.inl rfl, by simp at hm; omega⟩
  | @bol k n h e =>
    intro _ code todo
    refine ⟨1, [opIn 4 0 0], .step ?_, by simp [sizeR], ⟨fun p hp => ?_, fun m hm => ok_cons (b := []) ?_ (fun j hj => by simp at hj), by simp [sizeR]⟩⟩
    · simp only [stepP, nodeP, if_true, h, e]
      exact .nil
    · have := (seg_get (a := []) (b := []) rfl hp).1
      exact .bol (x := opIn 4 0 0) (by simpa using this) rfl
    · exact .inl ⟨.inr (.inl rfl), by simp at hm; omega⟩
  | @eol k n h e =>
    intro _ code todo
    refine ⟨1, [opIn 5 0 0], .step ?_, by simp [sizeR], ⟨fun p hp => ?_, fun m hm => ok_cons (b := []) ?_ (fun j hj => by simp at hj), by simp [sizeR]⟩⟩
    · simp only [stepP, nodeP, if_true, h, e]
      exact .nil
    · have := (seg_get (a := []) (b := []) rfl hp).1
      exact .eol (x := opIn 5 0 0) (by simpa using this) rfl
    · exact .inl ⟨.inr (.inr rfl), by simp at hm; omega⟩
  | @cat k A B n a b h e e1 e2 _ _ _ _ ih1 ih2 =>
    rintro ⟨h1, h2⟩ code todo
    obtain ⟨k1, s1, r1, b1, o1⟩ := ih1 h1 code (⟨0, B, 0⟩ :: todo)
    obtain ⟨k2, s2, r2, b2, o2⟩ := ih2 h2 (code ++ s1) todo
    rw [List.length_append] at o2
    refine ⟨(k1 + k2) + 1, s1 ++ s2, .step ?_, by simp only [sizeR]; omega, ⟨fun p hp => ?_, fun m hm => ?_, by have := o1.len; have := o2.len; simp only [List.length_append, sizeR]; omega⟩⟩
    · have : stepP cl ⟨0, k, 0⟩ code todo = (code, ⟨0, A, 0⟩ :: ⟨0, B, 0⟩ :: todo) := by simp [stepP, nodeP, h, e, e1, e2]
      rw [this, ← List.append_assoc]
      exact r1.trans r2
    · rw [List.length_append, ← Nat.add_assoc]
      refine .cat (o1.code p (fun j hj => ?_)) (o2.code p (fun j hj => ?_))
      · rw [hp j (by simp; omega), List.getElem?_append_left hj]
      · have := hp (s1.length + j) (by simp; omega)
        rw [← Nat.add_assoc] at this
        rw [this, List.getElem?_append_right (by omega), Nat.add_sub_cancel_left]
    · rw [List.length_append] at hm
      exact ok_app (fun j hj => o1.ok m (by omega) j hj) (fun j hj => o2.ok m (by omega) j hj)
  | @alt k A B n a b h e e1 e2 _ _ _ _ ih1 ih2 =>
    rintro ⟨h1, h2⟩ code todo
    obtain ⟨k1, s1, r1, b1, o1⟩ := ih1 h1 (code ++ [opIn 1 ((code.length + 1 : Nat) : Int) (-1)]) (⟨1, code.length, B⟩ :: todo)
    rw [List.length_append, List.length_singleton] at o1
    obtain ⟨k2, s2, r2, b2, o2⟩ := ih2 h2 (code ++ [opIn 1 ((code.length + 1 : Nat) : Int) ((code.length + 1 + s1.length + 1 : Nat) : Int)] ++ s1 ++ [opIn 2 (-1) 0]) (⟨2, code.length + 1 + s1.length, 0⟩ :: todo)
    have hl2 : (code ++ [opIn 1 ((code.length + 1 : Nat) : Int) ((code.length + 1 + s1.length + 1 : Nat) : Int)] ++ s1 ++ [opIn 2 (-1) 0]).length = code.length + 1 + s1.length + 1 := by simp; omega
    rw [hl2] at o2
    refine ⟨(k1 + ((k2 + 1) + 1)) + 1, opIn 1 ((code.length + 1 : Nat) : Int) ((code.length + 1 + s1.length + 1 : Nat) : Int) :: (s1 ++ opIn 2 ((code.length + 1 + s1.length + 1 + s2.length : Nat) : Int) 0 :: s2), .step ?_, by simp only [sizeR]; omega, ⟨fun p hp => ?_, fun m hm => ?_, by have := o1.len; have := o2.len; simp only [List.length_append, List.length_cons, sizeR]; omega⟩⟩
    · have e3 : stepP cl ⟨0, k, 0⟩ code todo = (code ++ [opIn 1 ((code.length + 1 : Nat) : Int) (-1)], ⟨0, A, 0⟩ :: ⟨1, code.length, B⟩ :: todo) := by simp [stepP, nodeP, h, e, e1, e2]
      rw [e3]
      refine r1.trans (.step ?_)
      have e4 : stepP cl ⟨1, code.length, B⟩ (code ++ [opIn 1 ((code.length + 1 : Nat) : Int) (-1)] ++ s1) todo = (code ++ [opIn 1 ((code.length + 1 : Nat) : Int) ((code.length + 1 + s1.length + 1 : Nat) : Int)] ++ s1 ++ [opIn 2 (-1) 0], ⟨0, B, 0⟩ :: ⟨2, code.length + 1 + s1.length, 0⟩ :: todo) := by
        simp only [stepP]
        rw [if_neg (by decide), if_pos trivial]
        have e5 : code ++ [opIn 1 ((code.length + 1 : Nat) : Int) (-1)] ++ s1 ++ [opIn 2 (-1) 0] = code ++ opIn 1 ((code.length + 1 : Nat) : Int) (-1) :: (s1 ++ [opIn 2 (-1) 0]) := by simp
        rw [e5, modL_at]
        simp [setY, opIn]
        omega
      rw [e4]
      refine r2.trans (.step ?_)
      have e6 : stepP cl ⟨2, code.length + 1 + s1.length, 0⟩ (code ++ [opIn 1 ((code.length + 1 : Nat) : Int) ((code.length + 1 + s1.length + 1 : Nat) : Int)] ++ s1 ++ [opIn 2 (-1) 0] ++ s2) todo = (code ++ opIn 1 ((code.length + 1 : Nat) : Int) ((code.length + 1 + s1.length + 1 : Nat) : Int) :: (s1 ++ opIn 2 ((code.length + 1 + s1.length + 1 + s2.length : Nat) : Int) 0 :: s2), todo) := by
        simp only [stepP]
        rw [if_neg (by decide), if_neg (by decide), if_pos trivial]
        have e7 : code ++ [opIn 1 ((code.length + 1 : Nat) : Int) ((code.length + 1 + s1.length + 1 : Nat) : Int)] ++ s1 ++ [opIn 2 (-1) 0] ++ s2 = (code ++ opIn 1 ((code.length + 1 : Nat) : Int) ((code.length + 1 + s1.length + 1 : Nat) : Int) :: s1) ++ opIn 2 (-1) 0 :: s2 := by simp
        have e8 : code.length + 1 + s1.length = (code ++ opIn 1 ((code.length + 1 : Nat) : Int) ((code.length + 1 + s1.length + 1 : Nat) : Int) :: s1).length := by simp; omega
        rw [e7, modL_at' _ _ _ _ e8]
        simp [setX, opIn]
        omega
      rw [e6]
      exact .nil
    · obtain ⟨g1, _, g2⟩ := seg_get (a := []) rfl hp
      obtain ⟨g3, g4, g5⟩ := seg_get (base := code.length + 1) rfl (fun j hj => by have := g2 j hj; simpa using this)
      have hE : code.length + (opIn 1 ((code.length + 1 : Nat) : Int) ((code.length + 1 + s1.length + 1 : Nat) : Int) :: (s1 ++ opIn 2 ((code.length + 1 + s1.length + 1 + s2.length : Nat) : Int) 0 :: s2)).length = code.length + 1 + s1.length + 1 + s2.length := by simp; omega
      rw [hE]
      exact .alt (x := opIn 1 ((code.length + 1 : Nat) : Int) ((code.length + 1 + s1.length + 1 : Nat) : Int)) (j := opIn 2 ((code.length + 1 + s1.length + 1 + s2.length : Nat) : Int) 0) (by simpa using g1) rfl rfl rfl (o1.code p g4) g3 rfl rfl (o2.code p g5)
    · simp only [List.length_cons, List.length_append] at hm
      refine ok_cons ?_ (ok_app (fun j hj => o1.ok m (by omega) j hj) (ok_cons ?_ (fun j hj => o2.ok m (by omega) j hj)))
      · refine .inr (.inr (.inl ⟨rfl, ?_⟩)); simp only [opIn]; omega
      · refine .inr (.inr (.inr (.inl ⟨rfl, ?_⟩))); simp only [opIn]; omega
  | @rep k A m n a h e e1 e2 _ _ ih1 =>
    rintro ⟨h1, hm, hx⟩ code todo
    subst hm
    rw [hx]
    obtain ⟨k1, s1, r1, b1, o1⟩ := ih1 h1 (code ++ [if n.lz then opIn 1 (-1) ((code.length + 1 : Nat) : Int) else opIn 1 ((code.length + 1 : Nat) : Int) (-1)]) (⟨3, code.length, if n.lz then 1 else 0⟩ :: todo)
    rw [List.length_append, List.length_singleton] at o1
    refine ⟨(k1 + (0 + 1)) + 1, opIn 1 (((if n.lz then code.length + 1 + s1.length + 1 else code.length + 1) : Nat) : Int) (((if n.lz then code.length + 1 else code.length + 1 + s1.length + 1) : Nat) : Int) :: (s1 ++ [opIn 2 (code.length : Nat) 0]), .step ?_, by simp only [sizeR]; omega, ⟨fun p hp => ?_, fun m hm => ?_, by have := o1.len; simp only [List.length_append, List.length_cons, List.length_nil, sizeR]; omega⟩⟩
    · have e3 : stepP cl ⟨0, k, 0⟩ code todo = (code ++ [if n.lz then opIn 1 (-1) ((code.length + 1 : Nat) : Int) else opIn 1 ((code.length + 1 : Nat) : Int) (-1)], ⟨0, A, 0⟩ :: ⟨3, code.length, if n.lz then 1 else 0⟩ :: todo) := by simp [stepP, nodeP, h, e, e1]
      rw [e3]
      refine r1.trans (.step ?_)
      have e4 : stepP cl ⟨3, code.length, if n.lz then 1 else 0⟩ (code ++ [if n.lz then opIn 1 (-1) ((code.length + 1 : Nat) : Int) else opIn 1 ((code.length + 1 : Nat) : Int) (-1)] ++ s1) todo = (code ++ opIn 1 (((if n.lz then code.length + 1 + s1.length + 1 else code.length + 1) : Nat) : Int) (((if n.lz then code.length + 1 else code.length + 1 + s1.length + 1) : Nat) : Int) :: (s1 ++ [opIn 2 (code.length : Nat) 0]), todo) := by
        simp only [stepP]
        rw [if_neg (by decide), if_neg (by decide), if_neg (by decide), if_pos trivial]
        have e5 : code ++ [if n.lz then opIn 1 (-1) ((code.length + 1 : Nat) : Int) else opIn 1 ((code.length + 1 : Nat) : Int) (-1)] ++ s1 ++ [opIn 2 (code.length : Nat) 0] = code ++ (if n.lz then opIn 1 (-1) ((code.length + 1 : Nat) : Int) else opIn 1 ((code.length + 1 : Nat) : Int) (-1)) :: (s1 ++ [opIn 2 (code.length : Nat) 0]) := by simp
        rw [e5, modL_at]
        have e6 : (code ++ [if n.lz then opIn 1 (-1) ((code.length + 1 : Nat) : Int) else opIn 1 ((code.length + 1 : Nat) : Int) (-1)] ++ s1).length = code.length + 1 + s1.length := by simp; omega
        rw [e6]
        cases n.lz <;> simp [setX, setY, opIn]
      rw [e4]
      exact .nil
    · obtain ⟨g1, _, g2⟩ := seg_get (a := []) rfl hp
      obtain ⟨g3, g4, _⟩ := seg_get (base := code.length + 1) rfl (fun j hj => by have := g2 j hj; simpa using this)
      have hE : code.length + (opIn 1 (((if n.lz then code.length + 1 + s1.length + 1 else code.length + 1) : Nat) : Int) (((if n.lz then code.length + 1 else code.length + 1 + s1.length + 1) : Nat) : Int) :: (s1 ++ [opIn 2 (code.length : Nat) 0])).length = code.length + 1 + s1.length + 1 := by simp; omega
      rw [hE]
      exact .star (x := opIn 1 (((if n.lz then code.length + 1 + s1.length + 1 else code.length + 1) : Nat) : Int) (((if n.lz then code.length + 1 else code.length + 1 + s1.length + 1) : Nat) : Int)) (j := opIn 2 (code.length : Nat) 0) (by simpa using g1) rfl rfl rfl (o1.code p g4) g3 rfl rfl
    · simp only [List.length_cons, List.length_append, List.length_nil] at hm
      refine ok_cons ?_ (ok_app (fun j hj => o1.ok m (by omega) j hj) (ok_cons (b := []) ?_ (fun j hj => by simp at hj)))
      · refine .inr (.inr (.inl ⟨rfl, ?_⟩)); cases n.lz <;> simp only [opIn, if_true, Bool.false_eq_true, if_false] <;> omega
      · refine .inr (.inr (.inr (.inl ⟨rfl, ?_⟩))); simp only [opIn]; omega
  | @grp k A c n a h e e1 e2 _ _ ih1 =>
    rintro ⟨h1, hc1, hc3⟩ code todo
    obtain ⟨k1, s1, r1, b1, o1⟩ := ih1 h1 (code ++ [opIn 3 ((2 * c : Nat) : Int) 0]) (⟨4, 2 * c + 1, 0⟩ :: todo)
    rw [List.length_append, List.length_singleton] at o1
    refine ⟨(k1 + (0 + 1)) + 1, opIn 3 ((2 * c : Nat) : Int) 0 :: (s1 ++ [opIn 3 ((2 * c + 1 : Nat) : Int) 0]), .step ?_, by simp only [sizeR]; omega, ⟨fun p hp => ?_, fun m hm => ?_, by have := o1.len; simp only [List.length_append, List.length_cons, List.length_nil, sizeR]; omega⟩⟩
    · have e3 : stepP cl ⟨0, k, 0⟩ code todo = (code ++ [opIn 3 ((2 * c : Nat) : Int) 0], ⟨0, A, 0⟩ :: ⟨4, 2 * c + 1, 0⟩ :: todo) := by simp [stepP, nodeP, h, e, e1, e2]
      rw [e3]
      refine r1.trans (.step ?_)
      have e4 : stepP cl ⟨4, 2 * c + 1, 0⟩ (code ++ [opIn 3 ((2 * c : Nat) : Int) 0] ++ s1) todo = (code ++ opIn 3 ((2 * c : Nat) : Int) 0 :: (s1 ++ [opIn 3 ((2 * c + 1 : Nat) : Int) 0]), todo) := by
        simp [stepP]
      rw [e4]
      exact .nil
    · obtain ⟨g1, _, g2⟩ := seg_get (a := []) rfl hp
      obtain ⟨g3, g4, _⟩ := seg_get (base := code.length + 1) rfl (fun j hj => by have := g2 j hj; simpa using this)
      have hE : code.length + (opIn 3 ((2 * c : Nat) : Int) 0 :: (s1 ++ [opIn 3 ((2 * c + 1 : Nat) : Int) 0])).length = code.length + 1 + s1.length + 1 := by simp; omega
      rw [hE]
      exact .grp (x := opIn 3 ((2 * c : Nat) : Int) 0) (j := opIn 3 ((2 * c + 1 : Nat) : Int) 0) (by simpa using g1) rfl rfl (o1.code p g4) g3 rfl rfl
    · simp only [List.length_cons, List.length_append, List.length_nil] at hm
      refine ok_cons ?_ (ok_app (fun j hj => o1.ok m (by omega) j hj) (ok_cons (b := []) ?_ (fun j hj => by simp at hj)))
      · refine .inr (.inl ⟨rfl, ?_⟩); simp only [opIn]; omega
      · refine .inr (.inl ⟨rfl, ?_⟩); simp only [opIn]; omega
end Go.Proofs.Qxb6500283aGreat
