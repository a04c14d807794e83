/- A region that draws its order may be walked in the order of its text, where a Bool that the kernel computes says so. -/
import Derived.Test.Qxb6500277aGreatCls3
namespace Go.Proofs.Qxb6500277aGreat
open Go Go.RowKit

section
variable {P : Program} {ops : Array Oper} {Q : Exit → Act → World → Prop}

def Fine (P : Program) (ops : Array Oper) (i : Nat) (a : Act) : Prop :=
  ∀ o, ops[i]? = some o → Region.wanted o (yielded ops a.tmps) = true → kOK P o a.eval = true

def needK (o : Oper) : Bool :=
  match o.op with
  | .nilCheck _ | .binOp _ _ _ _ _ | .convert _ _ _ => true
  | .call { callee := .builtin .len, .. } => true
  | .call { callee := .builtin .cap, .. } => true
  | _ => false

theorem kOK_of_not_need (o : Oper) (ρ : Operand → Value) (h : needK o = false) : kOK P o ρ = true := by
  obtain ⟨dst, op, ty, pos, aft, gd⟩ := o
  cases op <;> try rfl
  all_goals try (simp [needK] at h; done)
  case call c =>
    obtain ⟨callee, args, ats⟩ := c
    cases callee <;> try rfl
    rename_i b
    cases b <;> first | rfl | (simp [needK] at h; done)

theorem kOK_congr (o : Oper) {ρ ρ' : Operand → Value} (h : ∀ x ∈ o.op.operands, ρ x = ρ' x) : kOK P o ρ = kOK P o ρ' := by
  obtain ⟨dst, op, ty, pos, aft, gd⟩ := o
  cases op <;> try rfl
  case nilCheck x => simp only [kOK]; rw [h x (by simp [Op.operands])]
  case binOp op t x y t' => simp only [kOK]; rw [h x (by simp [Op.operands]), h y (by simp [Op.operands])]
  case convert s d x => simp only [kOK]; rw [h x (by simp [Op.operands])]
  case call c =>
    obtain ⟨callee, args, ats⟩ := c
    have hargs : callee = .builtin .len ∨ callee = .builtin .cap → args.map ρ = args.map ρ' := fun hc => Array.map_congr_left fun x hx => h x (by
      rcases hc with rfl | rfl <;> simpa [Op.operands, Call.operands] using hx)
    cases callee <;> try rfl
    rename_i b
    cases b <;> first | rfl | (simp only [kOK]; rw [hargs (by simp)])

theorem kOK_put (o : Oper) (a : Act) (dst : Option Tmp) (v : Value) (h : ∀ d, dst = some d → d ∉ o.looksAt ops) :
    kOK P o (a.put dst v).eval = kOK P o a.eval :=
  kOK_congr o fun x hx => Act.eval_put fun d hd hxd => h d hd (by
    subst hxd
    exact List.mem_append_left _ (List.mem_filterMap.2 ⟨.tmp d, by simpa using hx, rfl⟩))

theorem fine_put {i : Nat} {oi : Oper} (hi : ops[i]? = some oi) {a : Act} {dst : Option Tmp} {v : Value} (h : ∀ d, dst = some d → d ∉ oi.looksAt ops) (hf : Fine P ops i (a.put dst v)) : Fine P ops i a := by
  intro o ho hw
  rw [hi] at ho
  cases ho
  have := hf oi hi (by rw [wanted_put oi a dst v h]; exact hw)
  rwa [kOK_put oi a dst v h] at this

/-- In every world that meets S the operation leaves v in its temporary and does nothing else. -/
def YieldsIf' (P : Program) (ops : Array Oper) (S : World → Prop) (o : Oper) (v : Value) (a : Act) : Prop :=
  (Region.wanted o (yielded ops a.tmps) = true ∧ kOK P o a.eval = true ∧ ∀ w, S w → (execOp a.eval o).run P w = .ok (.value v) w) ∨
  (Region.wanted o (yielded ops a.tmps) = false ∧ v = undef)

variable {S : World → Prop}

theorem YieldsIf'.wpOp {i : Nat} {o : Oper} {v : Value} {a : Act} (hi : ops[i]? = some o) (hy : YieldsIf' P ops S o v a)
    {K : Act → World → Prop} {w : World} (hS : S w) (h : K (a.put o.dst v) w) : wpOp P ops Q i K a w := by
  unfold Go.wpOp
  simp only [hi]
  rcases hy with ⟨hw, _, hv⟩ | ⟨hw, rfl⟩
  · simp only [hw, if_true, Oper.wp, hv w hS, Oper.upon]; exact .inl h
  · simp only [hw, Bool.false_eq_true, if_false]; exact h

theorem YieldsIf'.of_same {o : Oper} {v : Value} {a a' : Act} (hy : YieldsIf' P ops S o v a) (he : execOp a'.eval o = execOp a.eval o)
    (hk : kOK P o a'.eval = kOK P o a.eval)
    (hw : Region.wanted o (yielded ops a'.tmps) = Region.wanted o (yielded ops a.tmps)) : YieldsIf' P ops S o v a' := by
  unfold YieldsIf' at *
  rw [he, hw, hk]
  exact hy

theorem wpOp_putIf' {j : Nat} {oi oj : Oper} {v : Value} (hj : ops[j]? = some oj) (hap : oi.apart ops oj = true)
    (hsi : ∀ cs b, oi.op ≠ .select cs b) (hsj : ∀ cs b, oj.op ≠ .select cs b)
    (hQ : ∀ c a w, Q (.panic c) (a.put oi.dst v) w → Q (.panic c) a w) {K : Act → World → Prop} {a : Act} {w : World}
    (hy : YieldsIf' P ops S oi v a) (h : wpOp P ops Q j K (a.put oi.dst v) w) :
    wpOp P ops Q j (fun a' w' => YieldsIf' P ops S oi v a' ∧ K (a'.put oi.dst v) w') a w := by
  obtain ⟨h1, h2, h3⟩ := Oper.apart_spec hap
  have keep : ∀ (a : Act), YieldsIf' P ops S oi v a → ∀ u, YieldsIf' P ops S oi v (a.put oj.dst u) := fun a hy u =>
    hy.of_same (execOp_put oi hsi a oj.dst u h3) (kOK_put oi a oj.dst u h3) (wanted_put oi a oj.dst u h3)
  have keepD : ∀ d, YieldsIf' P ops S oi v { a with defers := d :: a.defers } := fun d => hy.of_same rfl rfl rfl
  unfold wpOp at *
  simp only [hj] at *
  rw [wanted_put oj a oi.dst v h1] at h
  split
  · rename_i hw
    simp only [hw, if_true] at h
    rcases h with h | ⟨hasks, hlets⟩
    case inr => exact .inr ⟨by unfold Oper.asks at *; rw [execOp_put oj hsj a oi.dst v h1] at hasks; exact hasks, hlets⟩
    refine .inl ?_
    unfold Oper.wp at *
    rw [execOp_put oj hsj a oi.dst v h1] at h
    generalize (execOp a.eval oj).run P w = r at *
    cases r with
    | ok n w' =>
      cases n <;> simp only [Oper.upon] at h ⊢
      case value u => exact ⟨keep a hy u, by rw [← Act.put_comm a v u h2]; exact h⟩
      case skip => exact ⟨keep a hy _, by rw [← Act.put_comm a v undef h2]; exact h⟩
      case defer d =>
        refine ⟨keep _ (keepD d) _, ?_⟩
        rw [← Act.put_comm _ v undef h2, ← Act.put_defers]
        exact h
      case enter f args =>
        refine Calls.mono h fun e w'' he => ?_
        cases e with
        | returned u => exact ⟨keep a hy u, by rw [← Act.put_comm a v u h2]; exact he⟩
        | panicked c => exact hQ _ _ _ he
        | outgrown => exact he
      case row row args => exact Rows.mono h fun u w'' he => ⟨keep a hy u, by rw [← Act.put_comm a v u h2]; exact he⟩
    | halt x w' =>
      cases x <;> simp only [Oper.upon] at h ⊢
      case panic u => exact hQ _ _ _ h
  · rename_i hw
    simp only [hw] at h
    exact ⟨keep a hy _, by rw [← Act.put_comm a v undef h2]; exact h⟩

/-- Whatever order is picked from here on; each operation that comes up meets its kind's wish. -/
def wpAnyK (P : Program) (ops : Array Oper) (Q : Exit → Act → World → Prop) : Nat → Array Bool → Act → World → Prop
  | 0, listed, a, w => Region.ready .any ops listed = [] ∧ Q .normal a w
  | fuel + 1, listed, a, w =>
    (Region.ready .any ops listed = [] → Q .normal a w) ∧
    ∀ i ∈ Region.ready .any ops listed, Fine P ops i a ∧ wpOp P ops Q i (wpAnyK P ops Q fuel (listed.setIfInBounds i true)) a w

theorem wpAny_of_K : ∀ (fuel : Nat) (listed : Array Bool) (a : Act) (w : World), wpAnyK P ops Q fuel listed a w → wpAny P .any ops Q fuel listed a w
  | 0, _, _, _, h => h
  | fuel + 1, _, _, _, h => ⟨h.1, fun i hi => wpOp_mono (fun a' w' h' => wpAny_of_K fuel _ a' w' h') (h.2 i hi).2⟩

/-- S stands behind operation j wherever it stood before it. -/
def Keeps (P : Program) (ops : Array Oper) (Q : Exit → Act → World → Prop) (S : World → Prop) (j : Nat) : Prop :=
  ∀ (K : Act → World → Prop) (a : Act) (w : World), S w → Fine P ops j a → wpOp P ops Q j K a w → wpOp P ops Q j (fun a' w' => S w' ∧ K a' w') a w

/-- What has come up is closed under 'waits for'. -/
def DC (ops : Array Oper) (listed : Array Bool) : Prop :=
  ∀ m om, ops[m]? = some om → listed.getD m false = true → ∀ e ∈ om.after, Region.binds .any e = true → listed.getD e.on false = true
/-- A table of who waits for whom, however far. -/
def certB (ops : Array Oper) (B : Array Nat) : Bool :=
  (List.range ops.size).all fun j => (List.range ops.size).all fun i => !(B.getD j 0).testBit i ||
    match ops[j]? with
    | some oj => oj.after.any fun e => Region.binds .any e && decide (e.on < j) && (e.on == i || (B.getD e.on 0).testBit i)
    | none => false

theorem dep_sound {B : Array Nat} (hc : certB ops B = true) {listed : Array Bool} (hd : DC ops listed) : ∀ (j : Nat) (oj : Oper) (i : Nat), ops[j]? = some oj →
    (∀ e ∈ oj.after, Region.binds .any e = true → listed.getD e.on false = true) → i < ops.size → (B.getD j 0).testBit i = true → listed.getD i false = true := by
  intro j
  induction j using Nat.strongRecOn with
  | _ j ih =>
    intro oj i hj hall hi hb
    simp only [certB, List.all_eq_true, List.mem_range] at hc
    have h1 := hc j (Array.getElem?_eq_some_iff.1 hj).1 i hi
    rw [hb, hj] at h1
    simp only [Bool.not_true, Bool.false_or] at h1
    obtain ⟨e, he, h2⟩ := Array.any_eq_true'.1 h1
    simp only [Bool.and_eq_true, Bool.or_eq_true, beq_iff_eq, decide_eq_true_eq] at h2
    obtain ⟨⟨hbind, hlt⟩, h2⟩ := h2
    have hl := hall e he hbind
    rcases h2 with h2 | h2
    · rw [← h2]; exact hl
    · have hsz : e.on < ops.size := Nat.lt_trans hlt (Array.getElem?_eq_some_iff.1 hj).1
      have ho : ops[e.on]? = some ops[e.on] := by simp [hsz]
      exact ih e.on hlt ops[e.on] i ho (hd e.on _ ho hl) hi h2

theorem DC.set {listed : Array Bool} (hd : DC ops listed) {j : Nat} (hj : j ∈ Region.ready .any ops listed) : DC ops (listed.setIfInBounds j true) := by
  intro m om hm hl e he hb
  by_cases hmj : j = m
  · subst hmj
    obtain ⟨_, oj, hoj, hall⟩ := mem_ready.1 hj
    rw [hm] at hoj; cases hoj
    exact getD_set_true (hall e he hb)
  · rw [getD_set_ne false hmj] at hl
    exact getD_set_true (hd m om hm hl e he hb)

theorem wpAnyK_first {B : Array Nat} (hcert : certB ops B = true) {i : Nat} {oi : Oper} {v : Value} (hi : ops[i]? = some oi) (hsel : ∀ (j : Nat) (o : Oper) cs b, ops[j]? = some o → o.op ≠ .select cs b)
    (hQ : ∀ c a w, Q (.panic c) (a.put oi.dst v) w → Q (.panic c) a w) :
    ∀ (fuel : Nat) (listed : Array Bool) (a : Act) (w : World),
      (∀ j oj, ops[j]? = some oj → j ≠ i → listed.getD j true = false → (∀ e ∈ oj.after, Region.binds .any e = true → e.on ≠ i) → (B.getD j 0).testBit i = false → oi.apart ops oj = true ∧ Keeps P ops Q S j) →
      DC ops listed → i ∈ Region.ready .any ops listed → Fine P ops i a → YieldsIf' P ops S oi v a → S w →
      wpAnyK P ops Q fuel (listed.setIfInBounds i true) (a.put oi.dst v) w → wpAnyK P ops Q (fuel + 1) listed a w := by
  intro fuel
  induction fuel with
  | zero =>
    intro listed a w _ _ hr hfi hy hS H
    refine ⟨fun h => (by rw [h] at hr; cases hr), fun j hj => ?_⟩
    by_cases hji : j = i
    · subst hji; exact ⟨hfi, hy.wpOp hi hS H⟩
    · have := ready_mono hj hji
      rw [H.1] at this
      cases this
  | succ fuel ih =>
    intro listed a w hfree hdc hr hfi hy hS H
    refine ⟨fun h => (by rw [h] at hr; cases hr), fun j hj => ?_⟩
    by_cases hji : j = i
    · subst hji; exact ⟨hfi, hy.wpOp hi hS H⟩
    · have h1 := H.2 j (ready_mono hj hji)
      obtain ⟨hjun, oj, hoj, hall⟩ := mem_ready.1 hj
      have hnot : ∀ e ∈ oj.after, Region.binds .any e = true → e.on ≠ i := fun e he hb heq => by
        have h1 := hall e he hb
        have h0 := (mem_ready.1 hr).1
        rw [heq] at h1
        rcases Nat.lt_or_ge i listed.size with h' | h'
        · simp [h'] at h0 h1; rw [h0] at h1; cases h1
        · simp [Array.getElem?_eq_none h'] at h1
      have hndep : (B.getD j 0).testBit i = false := by
        cases hb : (B.getD j 0).testBit i with
        | false => rfl
        | true =>
          have hisz : i < ops.size := (Array.getElem?_eq_some_iff.1 hi).1
          have h1 := dep_sound hcert hdc j oj i hoj hall hisz hb
          have h0 := (mem_ready.1 hr).1
          rcases Nat.lt_or_ge i listed.size with h' | h'
          · simp [h'] at h0 h1; rw [h0] at h1; cases h1
          · simp [Array.getElem?_eq_none h'] at h1
      obtain ⟨hap, hkeep⟩ := hfree j oj hoj hji hjun hnot hndep
      obtain ⟨ap1, ap2, ap3⟩ := Oper.apart_spec hap
      have hfj : Fine P ops j a := fine_put hoj ap1 h1.1
      refine ⟨hfj, ?_⟩
      have h2 := hkeep _ _ _ hS hfj (wpOp_putIf' hoj hap (fun cs b => hsel i oi cs b hi) (fun cs b => hsel j oj cs b hoj) hQ hy h1.2)
      have hfree' : ∀ k ok, ops[k]? = some ok → k ≠ i → (listed.setIfInBounds j true).getD k true = false →
          (∀ e ∈ ok.after, Region.binds .any e = true → e.on ≠ i) → (B.getD k 0).testBit i = false → oi.apart ops ok = true ∧ Keeps P ops Q S k := fun k ok hk hki hun hno hnd => by
        refine hfree k ok hk hki ?_ hno hnd
        by_cases hjk : j = k
        · subst hjk; exact hjun
        · rw [getD_set_ne true hjk] at hun; exact hun
      have hfi' : ∀ a', YieldsIf' P ops S oi v a' → Fine P ops i a' := by
        intro a' hy' o ho hw
        rw [hi] at ho; cases ho
        rcases hy' with ⟨_, hk, _⟩ | ⟨hn, _⟩
        · exact hk
        · rw [hn] at hw; cases hw
      refine wpOp_mono (fun a' w' h3 => ih (listed.setIfInBounds j true) a' w' hfree' (hdc.set hj) (ready_mono hr (Ne.symm hji)) (hfi' a' h3.2.1) h3.2.1 h3.1 ?_) h2
      rw [Array.setIfInBounds_comm _ _ hji]
      exact h3.2.2

def NF (F : Act → World → Prop) : Exit → Act → World → Prop := fun e a w => e = .normal ∧ F a w
variable {F : Act → World → Prop}

theorem run_of_wpOp {i : Nat} {o : Oper} (hi : ops[i]? = some o) {K : Act → World → Prop} {a : Act} {w : World} (hw : Region.wanted o (yielded ops a.tmps) = true) (h : wpOp P ops (NF F) i K a w) : o.wp P a w K (NF F) := by
  unfold wpOp at h
  simp only [hi, hw, if_true] at h
  rcases h with h | ⟨_, a0, w0, h0⟩
  · exact h
  · cases h0.1

theorem yields0 {i : Nat} {o : Oper} (hi : ops[i]? = some o) (hc : cls P o = 0) {K : Act → World → Prop} {a : Act} {w : World} (hf : Fine P ops i a) (h : wpOp P ops (NF F) i K a w) :
    ∃ v, YieldsIf' P ops (fun _ => True) o v a ∧ K (a.put o.dst v) w := by
  by_cases hw : Region.wanted o (yielded ops a.tmps) = true
  · have h' := run_of_wpOp hi hw h
    have hk := hf o hi hw
    unfold Oper.wp at h'
    cases hr : (execOp a.eval o).run P w with
    | ok n w1 =>
      obtain ⟨rfl, ⟨v, rfl⟩, hall⟩ := ins_run _ _ _ _ (cls0_ins o a.eval hc hk) hr
      rw [hr] at h'
      exact ⟨v, .inl ⟨hw, hk, fun w' _ => hall w'⟩, h'⟩
    | halt x w1 => rw [hr] at h'; cases x <;> first | exact h'.elim | (cases h'.1)
  · have hw' : Region.wanted o (yielded ops a.tmps) = false := by simpa using hw
    unfold wpOp at h
    simp only [hi, hw'] at h
    exact ⟨undef, .inr ⟨hw', rfl⟩, h⟩

theorem yields1 {i : Nat} {o : Oper} (hi : ops[i]? = some o) (hc : cls P o = 1) {K : Act → World → Prop} {a : Act} {w : World} (hf : Fine P ops i a) (h : wpOp P ops (NF F) i K a w) :
    ∃ v, YieldsIf' P ops (Grow w) o v a ∧ K (a.put o.dst v) w := by
  by_cases hw : Region.wanted o (yielded ops a.tmps) = true
  · have h' := run_of_wpOp hi hw h
    have hk := hf o hi hw
    unfold Oper.wp at h'
    cases hr : (execOp a.eval o).run P w with
    | ok n w1 =>
      obtain ⟨rfl, ⟨v, rfl⟩, hall⟩ := reads_run _ _ _ _ (cls1_reads o a.eval hc) hr
      rw [hr] at h'
      exact ⟨v, .inl ⟨hw, hk, fun w' hg => hall w' hg⟩, h'⟩
    | halt x w1 => rw [hr] at h'; cases x <;> first | exact h'.elim | (cases h'.1)
  · have hw' : Region.wanted o (yielded ops a.tmps) = false := by simpa using hw
    unfold wpOp at h
    simp only [hi, hw'] at h
    exact ⟨undef, .inr ⟨hw', rfl⟩, h⟩

theorem keeps_grow {j : Nat} {o : Oper} (hj : ops[j]? = some o) (hc : cls P o ≤ 2) (w0 : World) : Keeps P ops (NF F) (Grow w0) j := by
  intro K a w hS hf h
  by_cases hw : Region.wanted o (yielded ops a.tmps) = true
  · have h' := run_of_wpOp hj hw h
    have hk := hf o hj hw
    unfold wpOp
    simp only [hj, hw, if_true]
    refine .inl ?_
    unfold Oper.wp at h' ⊢
    cases hr : (execOp a.eval o).run P w with
    | ok n w1 =>
      have hg : Grow w w1 ∧ isVal n := by
        rcases Nat.lt_or_ge 0 (cls P o) with h0 | h0
        · rcases Nat.lt_or_ge 1 (cls P o) with h1 | h1
          · exact grows_run _ _ _ _ (cls2_grows o a.eval (by omega)) hr
          · obtain ⟨rfl, hv, _⟩ := reads_run _ _ _ _ (cls1_reads o a.eval (by omega)) hr
            exact ⟨Grow.refl _, hv⟩
        · obtain ⟨rfl, hv, _⟩ := ins_run _ _ _ _ (cls0_ins o a.eval (by omega) hk) hr
          exact ⟨Grow.refl _, hv⟩
      obtain ⟨hg, v, rfl⟩ := hg
      rw [hr] at h'
      exact ⟨hS.trans hg, h'⟩
    | halt x w1 => rw [hr] at h'; cases x <;> first | exact h'.elim | (cases h'.1)
  · have hw' : Region.wanted o (yielded ops a.tmps) = false := by simpa using hw
    unfold wpOp at h ⊢
    simp only [hj, hw', Bool.false_eq_true, if_false] at h ⊢
    exact ⟨hS, h⟩

/-- An operation that makes new blocks may be taken first, if all that could come before it looks at no memory. -/
theorem wpAnyK_firstA {B : Array Nat} (hcert : certB ops B = true) {i : Nat} {oi : Oper} {v : Value} (hi : ops[i]? = some oi) (hsel : ∀ (j : Nat) (o : Oper) cs b, ops[j]? = some o → o.op ≠ .select cs b) {w w1 : World} :
    ∀ (fuel : Nat) (listed : Array Bool) (a : Act),
      (∀ j oj, ops[j]? = some oj → j ≠ i → listed.getD j true = false → (∀ e ∈ oj.after, Region.binds .any e = true → e.on ≠ i) → (B.getD j 0).testBit i = false → oi.apart ops oj = true ∧ cls P oj = 0) →
      DC ops listed → i ∈ Region.ready .any ops listed → Fine P ops i a →
      (Region.wanted oi (yielded ops a.tmps) = true ∧ (execOp a.eval oi).run P w = .ok (.value v) w1) →
      wpAnyK P ops (NF F) fuel (listed.setIfInBounds i true) (a.put oi.dst v) w1 → wpAnyK P ops (NF F) (fuel + 1) listed a w := by
  have self : ∀ (a : Act) (K : Act → World → Prop), (Region.wanted oi (yielded ops a.tmps) = true ∧ (execOp a.eval oi).run P w = .ok (.value v) w1) → K (a.put oi.dst v) w1 → wpOp P ops (NF F) i K a w := by
    intro a K hy hK
    unfold wpOp
    simp only [hi, hy.1, if_true, Oper.wp, hy.2, Oper.upon]
    exact .inl hK
  intro fuel
  induction fuel with
  | zero =>
    intro listed a _ _ hr hfi hy H
    refine ⟨fun h => (by rw [h] at hr; cases hr), fun j hj => ?_⟩
    by_cases hji : j = i
    · subst hji; exact ⟨hfi, self a _ hy H⟩
    · have := ready_mono hj hji
      rw [H.1] at this
      cases this
  | succ fuel ih =>
    intro listed a hfree hdc hr hfi hy H
    refine ⟨fun h => (by rw [h] at hr; cases hr), fun j hj => ?_⟩
    by_cases hji : j = i
    · subst hji; exact ⟨hfi, self a _ hy H⟩
    · have h1 := H.2 j (ready_mono hj hji)
      obtain ⟨hjun, oj, hoj, hall⟩ := mem_ready.1 hj
      have hnot : ∀ e ∈ oj.after, Region.binds .any e = true → e.on ≠ i := fun e he hb heq => by
        have h1 := hall e he hb
        have h0 := (mem_ready.1 hr).1
        rw [heq] at h1
        rcases Nat.lt_or_ge i listed.size with h' | h'
        · simp [h'] at h0 h1; rw [h0] at h1; cases h1
        · simp [Array.getElem?_eq_none h'] at h1
      have hndep : (B.getD j 0).testBit i = false := by
        cases hb : (B.getD j 0).testBit i with
        | false => rfl
        | true =>
          have hisz : i < ops.size := (Array.getElem?_eq_some_iff.1 hi).1
          have h1 := dep_sound hcert hdc j oj i hoj hall hisz hb
          have h0 := (mem_ready.1 hr).1
          rcases Nat.lt_or_ge i listed.size with h' | h'
          · simp [h'] at h0 h1; rw [h0] at h1; cases h1
          · simp [Array.getElem?_eq_none h'] at h1
      obtain ⟨hap, hc0⟩ := hfree j oj hoj hji hjun hnot hndep
      obtain ⟨ap1, ap2, ap3⟩ := Oper.apart_spec hap
      have hfj : Fine P ops j a := fine_put hoj ap1 h1.1
      obtain ⟨u, hyu, hKu⟩ := yields0 hoj hc0 h1.1 h1.2
      have hyu' : YieldsIf' P ops (fun _ => True) oj u a := hyu.of_same (execOp_put oj (fun cs b => hsel j oj cs b hoj) a oi.dst v ap1).symm (kOK_put oj a oi.dst v ap1).symm (wanted_put oj a oi.dst v ap1).symm
      refine ⟨hfj, hyu'.wpOp hoj trivial ?_⟩
      have hfree' : ∀ k ok, ops[k]? = some ok → k ≠ i → (listed.setIfInBounds j true).getD k true = false →
          (∀ e ∈ ok.after, Region.binds .any e = true → e.on ≠ i) → (B.getD k 0).testBit i = false → oi.apart ops ok = true ∧ cls P ok = 0 := fun k ok hk hki hun hno hnd => by
        refine hfree k ok hk hki ?_ hno hnd
        by_cases hjk : j = k
        · subst hjk; exact hjun
        · rw [getD_set_ne true hjk] at hun; exact hun
      have hfi' : Fine P ops i (a.put oj.dst u) := fun o ho hw => by
        rw [hi] at ho; cases ho
        rw [wanted_put oi a oj.dst u ap3] at hw
        rw [kOK_put oi a oj.dst u ap3]
        exact hfi oi hi hw
      refine ih (listed.setIfInBounds j true) (a.put oj.dst u) hfree' (hdc.set hj) (ready_mono hr (Ne.symm hji)) hfi' ⟨?_, ?_⟩ ?_
      · rw [wanted_put oi a oj.dst u ap3]; exact hy.1
      · rw [execOp_put oi (fun cs b => hsel i oi cs b hi) a oj.dst u ap3]; exact hy.2
      · rw [Array.setIfInBounds_comm _ _ hji, ← Act.put_comm a v u ap2]
        exact hKu

def listedAt (n k : Nat) : Array Bool := (List.replicate k true ++ List.replicate (n - k) false).toArray
theorem listedAt_set (n k : Nat) (h : k < n) : (listedAt n k).setIfInBounds k true = listedAt n (k + 1) := by
  unfold listedAt
  obtain ⟨m, hm⟩ : ∃ m, n - k = m + 1 := ⟨n - k - 1, by omega⟩
  have hm' : n - (k + 1) = m := by omega
  rw [hm, hm', List.setIfInBounds_toArray, List.set_append_right _ _ (by simp)]
  rw [List.replicate_succ (n := m), List.replicate_succ' (n := k)]
  simp
theorem listedAt_lt (n k j : Nat) (h : j < k) (d : Bool) : (listedAt n k).getD j d = true := by
  unfold listedAt
  simp [List.getElem?_append, h]

def calmB (P : Program) (ops : Array Oper) (L : Array Bool) (k : Nat) : Bool :=
  (List.range ops.size).all fun j => j == k || L.getD j true || match ops[j]? with
    | some oj => ((Region.before ops).getD j 0).testBit k || decide (cls P oj ≤ 2)
    | none => true
def idleB (P : Program) (ops : Array Oper) (L : Array Bool) (k : Nat) : Bool :=
  (List.range ops.size).all fun j => j == k || L.getD j true || match ops[j]? with
    | some oj => ((Region.before ops).getD j 0).testBit k || cls P oj == 0
    | none => true
def stepB (P : Program) (ops : Array Oper) (k : Nat) : Bool :=
  (Region.ready .any ops (listedAt ops.size k) == [k]) ||
  ((Region.ready .any ops (listedAt ops.size k)).contains k && Region.free .any ops (listedAt ops.size k) k &&
    match ops[k]? with
    | some o => cls P o == 0 || (cls P o == 1 && calmB P ops (listedAt ops.size k) k) || (cls P o == 2 && o.guard.isNone && idleB P ops (listedAt ops.size k) k)
    | none => false)
def keepB (ops : Array Oper) : Bool :=
  (List.range ops.size).all fun k => match ops[k]? with
    | some o => !needK o || (List.range ops.size).all fun j => decide (j < k) || match (ops[j]?).bind (·.dst) with
      | some d => !(o.looksAt ops).contains d
      | none => true
    | none => true
def edgeB (ops : Array Oper) : Bool := (List.range ops.size).all fun j => match ops[j]? with
  | some o => o.after.all fun e => !Region.binds .any e || decide (e.on < j)
  | none => true
def textB (P : Program) (ops : Array Oper) : Bool := Region.noSelect ops && keepB ops && (edgeB ops && certB ops (Region.before ops)) && (List.range ops.size).all (stepB P ops)

def wpOpsK (P : Program) (ops : Array Oper) (Q : Exit → Act → World → Prop) : List Nat → Act → World → Prop
  | [], a, w => Q .normal a w
  | i :: rest, a, w => Fine P ops i a ∧ wpOp P ops Q i (wpOpsK P ops Q rest) a w

theorem calm_spec {L : Array Bool} {k j : Nat} {oj : Oper} (h : calmB P ops L k = true) (hj : ops[j]? = some oj) (hne : j ≠ k) (hun : L.getD j true = false) (hno : ((Region.before ops).getD j 0).testBit k = false) : cls P oj ≤ 2 := by
  simp only [calmB, List.all_eq_true, List.mem_range] at h
  have h1 := h j (Array.getElem?_eq_some_iff.1 hj).1
  simpa only [hj, Bool.or_eq_true, beq_iff_eq, hne, false_or, hun, hno, Bool.false_eq_true, decide_eq_true_eq] using h1
theorem idle_spec {L : Array Bool} {k j : Nat} {oj : Oper} (h : idleB P ops L k = true) (hj : ops[j]? = some oj) (hne : j ≠ k) (hun : L.getD j true = false) (hno : ((Region.before ops).getD j 0).testBit k = false) : cls P oj = 0 := by
  simp only [idleB, List.all_eq_true, List.mem_range] at h
  have h1 := h j (Array.getElem?_eq_some_iff.1 hj).1
  simpa only [hj, Bool.or_eq_true, beq_iff_eq, hne, false_or, hun, hno, Bool.false_eq_true] using h1
theorem listedAt_ge (n k j : Nat) (h : k ≤ j) : (listedAt n k).getD j false = false := by
  unfold listedAt
  rcases Nat.lt_or_ge j n with hj | hj
  · simp [List.getElem?_append, show ¬ j < k by omega, show j - k < n - k by omega]
  · simp [List.getElem?_append, show ¬ j < k by omega, show ¬ j - k < n - k by omega]
theorem dc_listedAt (hE : edgeB ops = true) (n k : Nat) : DC ops (listedAt n k) := by
  intro m om hm hl e he hb
  have hmk : m < k := by
    rcases Nat.lt_or_ge m k with h | h
    · exact h
    · rw [listedAt_ge n k m h] at hl; cases hl
  simp only [edgeB, List.all_eq_true, List.mem_range] at hE
  have h1 := hE m (Array.getElem?_eq_some_iff.1 hm).1
  rw [hm] at h1
  simp only [Array.all_eq_true_iff_forall_mem] at h1
  have h2 := h1 e he
  simp only [hb, Bool.not_true, Bool.false_or, decide_eq_true_eq] at h2
  exact listedAt_lt n k e.on (by omega) false

theorem wpAnyK_text (hB : textB P ops = true) : ∀ (m k : Nat), k + m = ops.size → ∀ (a : Act) (w : World),
    wpOpsK P ops (NF F) (List.range' k m) a w → wpAnyK P ops (NF F) m (listedAt ops.size k) a w := by
  simp only [textB, Bool.and_eq_true, List.all_eq_true, List.mem_range] at hB
  obtain ⟨⟨⟨hsel, hkeep⟩, hedge, hcert⟩, hstep⟩ := hB
  intro m
  induction m with
  | zero =>
    intro k hk a w h
    refine ⟨?_, h⟩
    unfold Region.ready
    rw [List.filter_eq_nil_iff]
    intro i hi
    rw [List.mem_range] at hi
    rw [listedAt_lt ops.size k i (by omega) true]
    simp
  | succ m ih =>
    intro k hk a w h
    have hlt : k < ops.size := by omega
    obtain ⟨o, ho⟩ : ∃ o, ops[k]? = some o := ⟨ops[k], by simp [hlt]⟩
    simp only [List.range'_succ, wpOpsK] at h
    obtain ⟨hf, h⟩ := h
    have hs := hstep k hlt
    simp only [stepB, Bool.or_eq_true, Bool.and_eq_true, beq_iff_eq, ho] at hs
    rcases hs with hr | ⟨⟨hr, hfree⟩, hc⟩
    · refine ⟨fun h0 => (by rw [hr] at h0; cases h0), fun i hi => ?_⟩
      rw [hr] at hi
      simp only [List.mem_singleton] at hi
      subst hi
      refine ⟨hf, wpOp_mono (fun a' w' h' => ?_) h⟩
      rw [listedAt_set _ _ hlt]
      exact ih (i + 1) (by omega) a' w' h'
    · have hmem : k ∈ Region.ready .any ops (listedAt ops.size k) := by simpa using hr
      rcases hc with (hc | ⟨hc, hcalm⟩) | ⟨⟨hc, hg⟩, hidle⟩
      · obtain ⟨v, hy, hK⟩ := yields0 ho hc hf h
        refine wpAnyK_first hcert (S := fun _ => True) (v := v) ho (Region.noSelect_spec hsel) (fun _ _ _ h => absurd h.1 (by simp)) m _ a w (fun j oj hj hne hun hno hnd => ⟨Region.free_spec ho hfree j oj hj hne hun hno, ?_⟩) (dc_listedAt hedge _ _) hmem hf hy trivial ?_
        · exact fun K a w _ _ h => wpOp_mono (fun _ _ h => ⟨trivial, h⟩) h
        · rw [listedAt_set _ _ hlt]
          exact ih (k + 1) (by omega) _ _ hK
      · obtain ⟨v, hy, hK⟩ := yields1 ho hc hf h
        refine wpAnyK_first hcert (S := Grow w) (v := v) ho (Region.noSelect_spec hsel) (fun _ _ _ h => absurd h.1 (by simp)) m _ a w (fun j oj hj hne hun hno hnd => ⟨Region.free_spec ho hfree j oj hj hne hun hno, ?_⟩) (dc_listedAt hedge _ _) hmem hf hy (Grow.refl w) ?_
        · exact keeps_grow hj (calm_spec hcalm hj hne hun hnd) w
        · rw [listedAt_set _ _ hlt]
          exact ih (k + 1) (by omega) _ _ hK
      · have hw : Region.wanted o (yielded ops a.tmps) = true := by
          have : o.guard = none := by simpa using hg
          simp [Region.wanted, this]
        have h' := run_of_wpOp ho hw h
        unfold Oper.wp at h'
        cases hr' : (execOp a.eval o).run P w with
        | ok n w1 =>
          obtain ⟨_, v, rfl⟩ := grows_run _ _ _ _ (cls2_grows o a.eval hc) hr'
          rw [hr'] at h'
          refine wpAnyK_firstA hcert (v := v) ho (Region.noSelect_spec hsel) m _ a (fun j oj hj hne hun hno hnd => ⟨Region.free_spec ho hfree j oj hj hne hun hno, idle_spec hidle hj hne hun hnd⟩) (dc_listedAt hedge _ _) hmem hf ⟨hw, hr'⟩ ?_
          rw [listedAt_set _ _ hlt]
          exact ih (k + 1) (by omega) _ _ h'
        | halt x w1 => rw [hr'] at h'; cases x <;> first | exact h'.elim | (cases h'.1)

theorem put_tmps (a : Act) (dst : Option Tmp) (v : Value) (t : Tmp) (h : dst ≠ some t) : (a.put dst v).tmps[t]? = a.tmps[t]? := by
  cases dst with
  | none => rfl
  | some d => simp only [Act.put]; exact Array.getElem?_setIfInBounds_ne (fun e => h (by rw [e]))

theorem wpOp_some {i : Nat} {K : Act → World → Prop} {a : Act} {w : World} (h : wpOp P ops (NF F) i K a w) :
    ∃ a' w', K a' w' ∧ ∀ t, (∀ o, ops[i]? = some o → o.dst ≠ some t) → a'.tmps[t]? = a.tmps[t]? := by
  cases hi : ops[i]? with
  | none => unfold wpOp at h; simp only [hi] at h; exact ⟨a, w, h, fun _ _ => rfl⟩
  | some o =>
    by_cases hw : Region.wanted o (yielded ops a.tmps) = true
    · have h' := run_of_wpOp hi hw h
      unfold Oper.wp at h'
      generalize (execOp a.eval o).run P w = r at h'
      cases r with
      | ok n w1 =>
        cases n <;> simp only [Oper.upon] at h'
        case value v => exact ⟨_, _, h', fun t ht => put_tmps _ _ _ _ (ht o rfl)⟩
        case skip => exact ⟨_, _, h', fun t ht => put_tmps _ _ _ _ (ht o rfl)⟩
        case defer d => exact ⟨_, _, h', fun t ht => put_tmps _ _ _ _ (ht o rfl)⟩
        case enter f args =>
          obtain ⟨e, w', fr, hR, _⟩ := h' []
          cases e with
          | returned v => exact ⟨_, _, hR, fun t ht => put_tmps _ _ _ _ (ht o rfl)⟩
          | panicked c => cases hR.1
          | outgrown => obtain ⟨_, _, h0⟩ := hR; cases h0.1
        case row row args =>
          obtain ⟨v, w', hR, _⟩ := h' default []
          exact ⟨_, _, hR, fun t ht => put_tmps _ _ _ _ (ht o rfl)⟩
      | halt x w1 => cases x <;> first | exact h'.elim | (cases h'.1)
    · have hw' : Region.wanted o (yielded ops a.tmps) = false := by simpa using hw
      unfold wpOp at h
      simp only [hi, hw', Bool.false_eq_true, if_false] at h
      exact ⟨_, _, h, fun t ht => put_tmps _ _ _ _ (ht o rfl)⟩

theorem wpOps_some : ∀ (l : List Nat) (a : Act) (w : World), wpOps P ops (NF F) l a w →
    ∃ a' w', F a' w' ∧ ∀ t, (∀ j ∈ l, ∀ o, ops[j]? = some o → o.dst ≠ some t) → a'.tmps[t]? = a.tmps[t]?
  | [], a, w, h => ⟨a, w, h.2, fun _ _ => rfl⟩
  | i :: l, a, w, h => by
    rw [wpOps_cons] at h
    obtain ⟨a1, w1, h1, e1⟩ := wpOp_some h
    obtain ⟨a2, w2, h2, e2⟩ := wpOps_some l a1 w1 h1
    exact ⟨a2, w2, h2, fun t ht => (e2 t fun j hj => ht j (by simp [hj])).trans (e1 t fun o ho => ht i (by simp) o ho)⟩

/-- The wishes of the classes, asked of the frame in which the region ends. -/
def kindsB (P : Program) (ops : Array Oper) (a : Act) : Bool :=
  ops.toList.all fun o => !needK o || kOK P o a.eval || !Region.wanted o (yielded ops a.tmps)

theorem wpOpsK_of (hK : keepB ops = true) : ∀ (m k : Nat), k + m = ops.size → ∀ (a : Act) (w : World),
    wpOps P ops (NF fun a w => kindsB P ops a = true ∧ F a w) (List.range' k m) a w → wpOpsK P ops (NF fun a w => kindsB P ops a = true ∧ F a w) (List.range' k m) a w := by
  intro m
  induction m with
  | zero => intro k _ a w h; exact h
  | succ m ih =>
    intro k hk a w h
    have hlt : k < ops.size := by omega
    have hfine : Fine P ops k a := by
      intro o ho hw
      cases hn : needK o with
      | false => exact kOK_of_not_need o _ hn
      | true =>
        obtain ⟨a', w', ⟨hkinds, _⟩, hsame⟩ := wpOps_some _ _ _ h
        simp only [keepB, List.all_eq_true, List.mem_range] at hK
        have h1 := hK k hlt
        simp only [ho, hn, Bool.not_true, Bool.false_or, List.all_eq_true, List.mem_range] at h1
        have hlook : ∀ t ∈ o.looksAt ops, a'.tmps[t]? = a.tmps[t]? := fun t ht => hsame t fun j hj oj hoj hd => by
          rw [List.mem_range'_1] at hj
          have h2 := h1 j (by omega)
          simp only [hoj, Option.bind_some, hd, Bool.or_eq_true, decide_eq_true_eq, Bool.not_eq_true', List.contains_eq_mem, decide_eq_false_iff_not] at h2
          rcases h2 with h2 | h2
          · omega
          · exact h2 ht
        have hw' : Region.wanted o (yielded ops a'.tmps) = true := by
          rw [← hw]
          unfold Region.wanted
          cases hg : o.guard with
          | none => rfl
          | some gw =>
            obtain ⟨g, want⟩ := gw
            have hy : yielded ops a'.tmps g = yielded ops a.tmps g := by
              unfold yielded
              cases ht : (ops[g]?).bind (·.dst) with
              | none => rfl
              | some t =>
                simp only [Option.bind_some]
                rw [hlook t (by simp [Oper.looksAt, hg, ht])]
            simp only [hy]
        have hke : kOK P o a.eval = kOK P o a'.eval := kOK_congr o fun x hx => by
          cases x with
          | tmp t =>
            have := hlook t (List.mem_append_left _ (List.mem_filterMap.2 ⟨.tmp t, by simpa using hx, rfl⟩))
            simp only [Act.eval, Array.getD_eq_getD_getElem?, this]
          | _ => rfl
        simp only [kindsB, List.all_eq_true] at hkinds
        have h3 := hkinds o (by simpa using Array.mem_of_getElem? ho)
        simp only [hn, hw', Bool.not_true, Bool.false_or, Bool.or_false] at h3
        rw [hke]; exact h3
    rw [List.range'_succ] at h ⊢
    rw [wpOps_cons] at h
    exact ⟨hfine, wpOp_mono (fun a' w' h' => ih (k + 1) (by omega) a' w' h') h⟩

/-- A REGION THAT DRAWS, WALKED IN THE ORDER OF ITS TEXT. -/
theorem wp_region_text {id : Nat} {l : List Oper} {a : Act} {w : World} (hm : P.follows .mixedOrders = true) (hB : textB P l.toArray = true)
    (h : wpList P l.toArray (fun e a' w' => e = .normal ∧ kindsB P l.toArray a' = true ∧ Q .normal a' w') l a w.drew) : (Code.region id l.toArray true).wp P Q a w := by
  have hB' := hB
  simp only [textB, Bool.and_eq_true] at hB'
  have h1 : wpOps P l.toArray (NF fun a' w' => kindsB P l.toArray a' = true ∧ Q .normal a' w') (List.range' 0 l.length) a w.drew := by
    rw [wpOps_eq_wpList l 0 (by simp)]; exact h
  have h2 := wpOpsK_of hB'.1.1.2 l.length 0 (by simp) a w.drew h1
  have h3 := wpAny_of_K _ _ _ _ (wpAnyK_text hB l.length 0 (by simp) a w.drew h2)
  have h4 : (Code.region id l.toArray true).wp P (NF fun a' w' => kindsB P l.toArray a' = true ∧ Q .normal a' w') a w := by
    refine wp_region_any hm ?_
    have e : (listedAt l.toArray.size 0) = Array.replicate l.toArray.size false := by simp [listedAt]
    rw [← e]
    simpa using h3
  refine wp_mono h4 ?_
  rintro e a' w' ⟨rfl, _, hq⟩
  exact hq
end
end Go.Proofs.Qxb6500277aGreat
