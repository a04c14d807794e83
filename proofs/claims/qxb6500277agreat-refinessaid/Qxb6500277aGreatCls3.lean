import Derived.Test.Qxb6500277aGreatCls2
namespace Go.Proofs.Qxb6500277aGreat
open Go Go.RowKit
section
variable {P : Program}

theorem reads_of_ins {α : Type} {ok : α → Prop} : ∀ (s : Sem α), Ins P ok s → Reads P ok s
  | .pure _, h => h
  | .halt _, _ => trivial
  | .program k, h => reads_of_ins (k P) h
  | .choose _ _, h => h
  | .mark _ k, h => reads_of_ins k h
  | .load .., h => h.elim
  | .store .., h => h.elim
  | .new .., h => h.elim
  | .shape .., h => h.elim
  | .freeze .., h => h.elim
  | .frozen .., h => h.elim
  | .getObj .., h => h.elim
  | .setObj .., h => h.elim
  | .sys .., h => h.elim
theorem grows_of_ins {α : Type} {ok : α → Prop} : ∀ (s : Sem α), Ins P ok s → Grows P ok s
  | .pure _, h => h
  | .halt _, _ => trivial
  | .program k, h => grows_of_ins (k P) h
  | .choose _ _, h => h
  | .mark _ k, h => grows_of_ins k h
  | .load .., h => h.elim
  | .store .., h => h.elim
  | .new .., h => h.elim
  | .shape .., h => h.elim
  | .freeze .., h => h.elim
  | .frozen .., h => h.elim
  | .getObj .., h => h.elim
  | .setObj .., h => h.elim
  | .sys .., h => h.elim
theorem reads_bind' {α β : Type} {ok' : β → Prop} {s : Sem α} {f : α → Sem β} (h : Reads P (fun _ => True) s) (hf : ∀ a, Reads P ok' (f a)) : Reads P ok' (s >>= f) := reads_bind s h fun a _ => hf a
theorem grows_bind' {α β : Type} {ok' : β → Prop} {s : Sem α} {f : α → Sem β} (h : Grows P (fun _ => True) s) (hf : ∀ a, Grows P ok' (f a)) : Grows P ok' (s >>= f) := grows_bind s h fun a _ => hf a

theorem reads_loadCells (a : Addr) : ∀ (n i : Nat) (acc : Array Value), Reads P (fun _ => True) (loadCellsFrom a i n acc)
  | 0, _, _ => trivial
  | n + 1, i, acc => reads_bind' (s := load (a.add i)) (fun _ => trivial) fun v => reads_loadCells a n (i + 1) (acc.push v)
theorem reads_loadVar (t : TypeId) (a : Addr) : Reads P (fun _ => True) (loadVar t a) := by
  unfold loadVar
  refine reads_bind' (reads_of_ins _ (ins_isAgg t)) fun b => ?_
  split
  · exact reads_bind' (reads_of_ins _ (ins_sizeOf t)) fun n => reads_bind' (reads_loadCells a n 0 #[]) fun _ => trivial
  · exact fun _ => trivial
theorem cls1_reads (o : Oper) (ρ : Operand → Value) (h0 : cls P o = 1) : Reads P isVal (execOp ρ o) := by
  obtain ⟨dst, op, ty, pos, aft, gd⟩ := o
  cases op <;> try (simp [cls] at h0; done)
  case fieldAddr s x f =>
    simp only [cls] at h0
    split at h0
    · split at h0
      · split at h0
        · split at h0 <;> cases h0
        · cases h0
      · cases h0
    · cases h0
  case load t x =>
    refine reads_bind' (reads_bind' (reads_of_ins _ (ins_sureAddr _)) fun a => reads_loadVar t a) fun v => ⟨v, rfl⟩
  case call c =>
    obtain ⟨callee, args, ats⟩ := c
    cases callee <;> try (simp [cls] at h0; done)
    rename_i b
    cases b <;> (simp [cls] at h0; done)

theorem grows_newRow (e : TypeId) (c : Array Value) : Grows P (fun _ => True) (newRow e c) := fun _ => trivial
theorem cls2_grows (o : Oper) (ρ : Operand → Value) (h0 : cls P o = 2) : Grows P isVal (execOp ρ o) := by
  obtain ⟨dst, op, ty, pos, aft, gd⟩ := o
  cases op <;> try (simp [cls] at h0; done)
  case fieldAddr s x f =>
    simp only [cls] at h0
    split at h0
    · split at h0
      · split at h0
        · split at h0 <;> cases h0
        · cases h0
      · cases h0
    · cases h0
  case alloc t =>
    refine grows_bind' ?_ fun v => ⟨v, rfl⟩
    unfold Instr.alloc
    exact grows_bind' (grows_of_ins _ (ins_zeroValue t)) fun z => grows_bind' (grows_newRow _ _) fun _ => trivial
  case box t x => exact grows_bind' (grows_bind' (grows_newRow _ _) fun _ => trivial) fun v => ⟨v, rfl⟩
  case buildSlice t n ps =>
    refine grows_bind' ?_ fun v => ⟨v, rfl⟩
    unfold Instr.buildSlice
    refine grows_bind' (grows_of_ins _ (ins_underlying t)) fun d => ?_
    split
    · refine grows_bind' (grows_of_ins _ (ins_sizeOf _)) fun sz => ?_
      dsimp only
      split
      · exact trivial
      · split
        · refine grows_bind' (s := pure #[]) trivial fun z => ?_
          split
          · exact grows_bind' (grows_newRow _ _) fun _ => trivial
          · trivial
        · refine grows_bind' (grows_of_ins _ (ins_zeroValue _)) fun z => ?_
          refine grows_bind' (s := pure z.cells) trivial fun z => ?_
          split
          · exact grows_bind' (grows_newRow _ _) fun _ => trivial
          · trivial
    · trivial
  case makeSlice t l c =>
    refine grows_bind' ?_ fun v => ⟨v, rfl⟩
    unfold Instr.makeSlice
    refine grows_bind' (grows_of_ins _ (ins_underlying t)) fun d => ?_
    split
    · refine grows_bind' (grows_of_ins _ (ins_asInt _)) fun len => grows_bind' (grows_of_ins _ (ins_asInt _)) fun cap => ?_
      refine grows_bind' (grows_of_ins _ (ins_typeInfo _)) fun ti => ?_
      dsimp only
      split
      · split
        · exact trivial
        · split
          · exact trivial
          · exact fun _ => trivial
      · refine grows_bind' (s := askRoom _) ?_ fun _ => ?_
        · unfold askRoom; split <;> exact trivial
        · refine grows_bind' (grows_of_ins _ (ins_sizeOf _)) fun sz => ?_
          split
          · exact grows_bind' (s := pure #[]) trivial fun z => grows_bind' (grows_newRow _ _) fun _ => trivial
          · refine grows_bind' (grows_of_ins _ (ins_zeroValue _)) fun z => ?_
            exact grows_bind' (s := pure z.cells) trivial fun z => grows_bind' (grows_newRow _ _) fun _ => trivial
    · trivial
  case call c =>
    obtain ⟨callee, args, ats⟩ := c
    cases callee <;> try (simp [cls] at h0; done)
    rename_i b
    cases b <;> (simp [cls] at h0; done)
end
end Go.Proofs.Qxb6500277aGreat
