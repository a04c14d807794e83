import Derived.Test.Qxb6500277aGreatCls
namespace Go.Proofs.Qxb6500277aGreat
open Go Go.RowKit
section
variable {P : Program}

theorem ins_v {s : Sem Value} (h : Ins P (fun _ => True) s) : Ins P isVal (s >>= fun a => pure (Next.value a)) := ins_bind' h fun a => ⟨a, rfl⟩
theorem ins_len (ats : Array TypeId) (ty : TypeId) (args : Array Value) (h : (match (args[0]? : Option Value) with | some (.slice _ _ _) => true | some (.string _) => true | _ => false) = true) : Ins P (fun _ => True) (Builtin.len_ ats ty args) := by
  unfold Builtin.len_
  split
  · rename_i t x e
    simp only [Prod.mk.injEq] at e
    rw [e.2] at h
    refine ins_bind' (ins_underlying _) fun d => ?_
    cases x <;> simp only [Bool.false_eq_true] at h
    · cases d <;> first | exact True.intro | (refine ins_bind' (ins_underlying _) fun d' => ?_; split <;> exact True.intro)
    · cases d <;> first | exact True.intro | (refine ins_bind' (ins_underlying _) fun d' => ?_; split <;> exact True.intro)
  · exact True.intro
theorem ins_cap (ats : Array TypeId) (ty : TypeId) (args : Array Value) (h : (match (args[0]? : Option Value) with | some (.slice _ _ _) => true | some (.string _) => true | _ => false) = true) : Ins P (fun _ => True) (Builtin.cap_ ats ty args) := by
  unfold Builtin.cap_
  split
  · rename_i t x e
    simp only [Prod.mk.injEq] at e
    rw [e.2] at h
    refine ins_bind' (ins_underlying _) fun d => ?_
    cases x <;> simp only [Bool.false_eq_true] at h
    · cases d <;> first | exact True.intro | (refine ins_bind' (ins_underlying _) fun d' => ?_; split <;> exact True.intro)
    · cases d <;> first | exact True.intro | (refine ins_bind' (ins_underlying _) fun d' => ?_; split <;> exact True.intro)
  · exact True.intro
theorem ins_bindU {β : Type} {ok : β → Prop} {t : TypeId} {d : TypeDesc} {f : TypeDesc → Sem β} (h : P.underlying t = some d) (hf : Ins P ok (f d)) : Ins P ok (underlying t >>= f) := by
  show Ins P ok (Sem.program _)
  simp only [Ins, Sem.bind, h]; exact hf
theorem ins_bindI {β : Type} {ok : β → Prop} {t : TypeId} {d : TypeInfo} {f : TypeInfo → Sem β} (h : P.info? t = some d) (hf : Ins P ok (f d)) : Ins P ok (typeInfo t >>= f) := by
  show Ins P ok (Sem.program _)
  simp only [Ins, Sem.bind, h]; exact hf
theorem ins_convert (src dst : TypeId) (x : Value) (h : (match P.underlying src, P.underlying dst, x with | some (.int _), some (.int _), .int _ _ => true | some .string, some .string, .string _ => true | _, _, _ => false) = true) :
    Ins P (fun _ => True) (convert src dst x) := by
  unfold convert
  split at h
  · rename_i h1 h2; exact ins_bindU h1 (ins_bindU h2 True.intro)
  · rename_i h1 h2; exact ins_bindU h1 (ins_bindU h2 True.intro)
  · cases h
theorem ins_fieldAt (s : TypeId) (x : Value) (f : Nat) (h : (match P.underlying s with
    | some (.struct fs) => match fs[f]? with
      | some fd => match P.info? fd.type with
        | some i => if i.size = 0 then 3 else 0
        | none => 3
      | none => 3
    | _ => 3) = 0) : Ins P (fun _ => True) (Instr.fieldAt s x f) := by
  unfold Instr.fieldAt
  split at h
  · rename_i fs h1
    refine ins_bindU h1 ?_
    split at h
    · rename_i fd h2
      simp only [h2]
      split at h
      · rename_i i h3
        split at h
        · cases h
        · rename_i h4
          refine ins_bind' (ins_sureAddr x) fun a => ?_
          refine ins_bind' ?_ fun _ => True.intro
          unfold fieldPlace sizeOf
          rw [bind_assoc]
          refine ins_bindI h3 ?_
          simp only [pure_bind, h4, if_false]
          exact True.intro
      · cases h
    · cases h
  · cases h

theorem cls0_ins (o : Oper) (ρ : Operand → Value) (h0 : cls P o = 0) (hk : kOK P o ρ = true) : Ins P isVal (execOp ρ o) := by
  obtain ⟨dst, op, ty, pos, aft, gd⟩ := o
  cases op <;> try (simp [cls] at h0; done)
  case move x => exact ⟨_, rfl⟩
  case assign x => exact ⟨_, rfl⟩
  case pick c a b => exact ins_bind' (ins_asBool _) fun t => ⟨_, rfl⟩
  case build t ps => exact ins_v (ins_build _ _)
  case nilCheck x =>
    simp only [kOK] at hk
    show Ins P isVal (match ρ x with
      | .pointer none | .nilIface | .nilFunc => runtimePanic .nilDeref
      | .func (.method name) first captured => _
      | x => pure (.value x))
    generalize ρ x = y at hk
    cases y <;> first | exact ⟨_, rfl⟩ | (cases hk; done) | exact ins_panicNil | skip
    rename_i a; cases a <;> first | exact ⟨_, rfl⟩ | exact ins_panicNil
  case binOp op t x y t' =>
    simp only [kOK] at hk
    exact ins_v (ins_bind' (ins_eqGuard _ _ _ _ _ _ hk) fun _ => ins_binOp _ _ _ _ hk)
  case unOp op t x => exact ins_v (ins_unary _ _)
  case convert s d x => simp only [kOK] at hk; exact ins_v (ins_convert _ _ _ hk)
  case slice t x lo hi mx => exact ins_v (ins_sliceAt _ _ _ _ _)
  case fieldAddr s x f => simp only [cls] at h0; exact ins_v (ins_fieldAt _ _ _ h0)
  case field s x f => exact ins_v (ins_field _ _ _)
  case indexAddr s x f => exact ins_v (ins_indexAt _ _ _)
  case index s x f => exact ins_v (ins_index _ _ _)
  case extract x f => exact ins_v (ins_extract _ _)
  case call c =>
    obtain ⟨callee, args, ats⟩ := c
    cases callee <;> try (simp [cls] at h0; done)
    rename_i b
    cases b <;> try (simp [cls] at h0; done)
    · simp only [kOK] at hk; exact ins_v (ins_cap _ _ _ hk)
    · simp only [kOK] at hk; exact ins_v (ins_len _ _ _ hk)
end
end Go.Proofs.Qxb6500277aGreat
