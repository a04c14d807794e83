/- The law: Write, Play. -/
import Derived.Test.Qxb6500286aK4
namespace Go.Proofs.Qxb6500286a
open Go Go.RowKit

set_option maxHeartbeats 400000 in
theorem lengthen_any (reg s : ByteArray) (hr : reg.size ≤ 129) (w : World) : Calls Try.prog 11 #[.string reg, .string s, .int .i64 128] w fun e w' => (∃ t : ByteArray, e = .returned (.string t) ∧ t.size ≤ 129) ∧ w' = w := by
  by_cases h1 : reg.size = 129
  · go_enter Try.func11, Try.ntmps11
    go_wp2
    go_ret
    exact ⟨⟨_, rfl, hr⟩, rfl⟩
  · have hr2 : reg.size < 129 := by omega
    clear hr h1
    by_cases h2 : (129 : Int) - reg.size < s.size
    · go_enter Try.func11, Try.ntmps11
      go_wp2
      go_ret
      refine ⟨⟨_, rfl, ?_⟩, rfl⟩
      simp [ByteArray.size_append, ByteArray.size_extract]
      omega
    · go_enter Try.func11, Try.ntmps11
      go_wp2
      go_ret
      refine ⟨⟨_, rfl, ?_⟩, rfl⟩
      simp [ByteArray.size_append]
      omega
set_option maxHeartbeats 400000 in
theorem lengthenS_any (reg s : ByteArray) (hr : reg.size ≤ 257) (w : World) : Calls Try.prog 11 #[.string reg, .string s, .int .i64 256] w fun e w' => (∃ t : ByteArray, e = .returned (.string t) ∧ t.size ≤ 257) ∧ w' = w := by
  by_cases h1 : reg.size = 257
  · go_enter Try.func11, Try.ntmps11
    go_wp2
    go_ret
    exact ⟨⟨_, rfl, hr⟩, rfl⟩
  · have hr2 : reg.size < 257 := by omega
    clear hr h1
    by_cases h2 : (257 : Int) - reg.size < s.size
    · go_enter Try.func11, Try.ntmps11
      go_wp2
      go_ret
      refine ⟨⟨_, rfl, ?_⟩, rfl⟩
      simp [ByteArray.size_append, ByteArray.size_extract]
      omega
    · go_enter Try.func11, Try.ntmps11
      go_wp2
      go_ret
      refine ⟨⟨_, rfl, ?_⟩, rfl⟩
      simp [ByteArray.size_append]
      omega
section
variable {w : World} {lo s x m sp d bb c : Nat} {D : Dk} {ns : List Nd}
def opV (kind A B C : Int) (S T : ByteArray) : Value := .agg #[.int .i64 kind, .int .i64 A, .int .i64 B, .int .i64 C, .string S, .string T]
def PlayPost (lo s x m sp d bb c : Nat) (w : World) : Ending → World → Prop := fun e w' =>
  e = .returned (.bool true) ∧ (∃ D' ns' c', c' ≤ c + 1 ∧ LawInv w' lo s x m sp d bb D' ns' c') ∧ Fr (fun b => lo ≤ b) w w'
def WritePost (lo s x m sp d bb c : Nat) (w : World) : Ending → World → Prop := fun e w' =>
  e = .returned (.tuple #[]) ∧ (∃ D' ns', LawInv w' lo s x m sp d bb D' ns' c) ∧ Fr (fun b => lo ≤ b) w w'
def patD (D : Dk) (t : ByteArray) : Dk := ⟨t, D.sub, D.lx, D.lm, D.old, D.n⟩
def subD (D : Dk) (t : ByteArray) : Dk := ⟨D.pat, t, D.lx, D.lm, D.old, D.n⟩
theorem dkCell_pat (D : Dk) (t : ByteArray) : ∀ o, o < 9 → upd (dkCell D) 0 (.string t) o = dkCell (patD D t) o := by
  intro o ho
  rcases (show o = 0 ∨ o = 1 ∨ o = 2 ∨ o = 3 ∨ o = 4 ∨ o = 5 ∨ o = 6 ∨ o = 7 ∨ o = 8 by omega) with rfl | rfl | rfl | rfl | rfl | rfl | rfl | rfl | rfl <;> simp [dkCell, upd, patD]
theorem dkCell_sub (D : Dk) (t : ByteArray) : ∀ o, o < 9 → upd (dkCell D) 1 (.string t) o = dkCell (subD D t) o := by
  intro o ho
  rcases (show o = 0 ∨ o = 1 ∨ o = 2 ∨ o = 3 ∨ o = 4 ∨ o = 5 ∨ o = 6 ∨ o = 7 ∨ o = 8 by omega) with rfl | rfl | rfl | rfl | rfl | rfl | rfl | rfl | rfl <;> simp [dkCell, upd, subD]
theorem LawInv.desk' {w' : World} {D' : Dk} (h : LawInv w lo s x m sp d bb D ns c) (k : Fr (fun b => b = d) w w') (hd : Blk w' d 9 (dkCell D')) (hp : D'.pat.size ≤ 129) (hs : D'.sub.size ≤ 257) (e1 : D'.lx = D.lx) (e2 : D'.lm = D.lm) (e3 : D'.old = D.old) (e4 : D'.n = D.n) : LawInv w' lo s x m sp d bb D' ns c := by
  have hdO : Own s x m sp d bb d := .inr (.inr (.inr (.inr (.inl rfl))))
  refine ⟨h.real.frame k h.xm.2.2 (fun b hb => (h.sm b hb).2.2), h.model.frame k h.md.1 h.md.2, hd, hp, hs, ?_, ?_, h.len, ?_, h.xm, h.sm, h.md, h.box.frame k h.bbo.2.2.2.2, h.bbo, h.los, h.lox, h.lom, h.lod, ?_, ?_, ?_, by rw [e4]; exact h.n⟩
  · rw [e1]; exact h.lx.frame k (fun b hb e => (h.bx b hb).1 (e ▸ hdO))
  · rw [e2]; exact h.lm.frame k (fun b hb e => h.bm b hb (e ▸ hdO))
  · have := h.old.frame k (fun i hi b hb e => h.bo i hi b hb (e ▸ hdO))
    intro i hi
    rw [e3]
    exact this i hi
  · rw [e1, e3]; exact h.bx
  · rw [e2]; exact h.bm
  · rw [e3]; exact h.bo
theorem LawInv.setPat (h : LawInv w lo s x m sp d bb D ns c) (t : ByteArray) (ht : t.size ≤ 129) : LawInv (w.setCell ⟨d, 0, none⟩ (.string t)) lo s x m sp d bb (patD D t) ns c :=
  h.desk' ((Fr.refl (fun b => b = d) w).setC d 0 (.string t) (fun _ => rfl)) ((h.desk.set 0 _).congr (dkCell_pat D t)) ht h.sub rfl rfl rfl rfl
theorem LawInv.setSub (h : LawInv w lo s x m sp d bb D ns c) (t : ByteArray) (ht : t.size ≤ 257) : LawInv (w.setCell ⟨d, 1, none⟩ (.string t)) lo s x m sp d bb (subD D t) ns c :=
  h.desk' ((Fr.refl (fun b => b = d) w).setC d 1 (.string t) (fun _ => rfl)) ((h.desk.set 1 _).congr (dkCell_sub D t)) h.pat ht rfl rfl rfl rfl
set_option maxRecDepth 100000 in
set_option maxHeartbeats 4000000 in
theorem write_text (h0 : LawInv w lo s x m sp d bb D ns c) (A B C : Int) (S T : ByteArray) : Calls Try.prog 15 #[.pointer (some ⟨d, 0, none⟩), opV 1 A B C S T] w (WritePost lo s x m sp d bb c w) := by
  unfold opV WritePost
  have f1 := (Fr.refl (fun _ => False) w).alloc (.cells #[.int .i64 1, .int .i64 A, .int .i64 B, .int .i64 C, .string S, .string T] 37)
  have h := h0.frame f1
  have c0 : (w.alloc (.cells #[.int .i64 1, .int .i64 A, .int .i64 B, .int .i64 C, .string S, .string T] 37)).cell? ⟨d, 0, none⟩ = some (.string D.pat) := h.desk.cell (by omega)
  have c1 : (w.alloc (.cells #[.int .i64 1, .int .i64 A, .int .i64 B, .int .i64 C, .string S, .string T] 37)).cell? ⟨d, 1, none⟩ = some (.string D.sub) := h.desk.cell (by omega)
  have z0 := h.desk.frozen
  have hdl := h.desk.lt
  have hlo := h.lod
  go_enter Try.func15, Try.ntmps15
  go_wp2_with fail
  refine wp_region_text (by kernel_rfl) (by kernel_rfl) ?_
  go_wp2_with fail
  refine (lengthen_any D.pat S h.pat _).mono ?_
  rintro e w2 ⟨⟨t, rfl, ht⟩, rfl⟩
  go_wp2_with fail
  refine ⟨by kernel_rfl, ?_⟩
  go_wp2_with fail
  first | go_end0 | refine bodyPost_ret (v := .tuple #[]) (by simp [results, Try.results15, go_sem]) rfl ?_
  have h2 := (h.setPat t ht).frame (Fr.refl (fun _ => False) _).drew
  exact ⟨rfl, ⟨_, _, h2⟩, ((f1.mono (S' := fun b => lo ≤ b) (fun _ _ h => h.elim)).setC d 0 _ (fun _ => hlo)).drew⟩
set_option maxRecDepth 100000 in
set_option maxHeartbeats 4000000 in
theorem write_sub (h0 : LawInv w lo s x m sp d bb D ns c) (A B C : Int) (S T : ByteArray) : Calls Try.prog 15 #[.pointer (some ⟨d, 0, none⟩), opV 2 A B C S T] w (WritePost lo s x m sp d bb c w) := by
  unfold opV WritePost
  have f1 := (Fr.refl (fun _ => False) w).alloc (.cells #[.int .i64 2, .int .i64 A, .int .i64 B, .int .i64 C, .string S, .string T] 37)
  have h := h0.frame f1
  have c0 : (w.alloc (.cells #[.int .i64 2, .int .i64 A, .int .i64 B, .int .i64 C, .string S, .string T] 37)).cell? ⟨d, 0, none⟩ = some (.string D.pat) := h.desk.cell (by omega)
  have c1 : (w.alloc (.cells #[.int .i64 2, .int .i64 A, .int .i64 B, .int .i64 C, .string S, .string T] 37)).cell? ⟨d, 1, none⟩ = some (.string D.sub) := h.desk.cell (by omega)
  have z0 := h.desk.frozen
  have hdl := h.desk.lt
  have hlo := h.lod
  go_enter Try.func15, Try.ntmps15
  go_wp2_with fail
  refine wp_region_text (by kernel_rfl) (by kernel_rfl) ?_
  go_wp2_with fail
  refine (lengthenS_any D.sub S h.sub _).mono ?_
  rintro e w2 ⟨⟨t, rfl, ht⟩, rfl⟩
  go_wp2_with fail
  refine ⟨by kernel_rfl, ?_⟩
  go_wp2_with fail
  first | go_end0 | refine bodyPost_ret (v := .tuple #[]) (by simp [results, Try.results15, go_sem]) rfl ?_
  have h2 := (h.setSub t ht).frame (Fr.refl (fun _ => False) _).drew
  exact ⟨rfl, ⟨_, _, h2⟩, ((f1.mono (S' := fun b => lo ≤ b) (fun _ _ h => h.elim)).setC d 1 _ (fun _ => hlo)).drew⟩
set_option maxRecDepth 100000 in
set_option maxHeartbeats 4000000 in
theorem write_fresh (h0 : LawInv w lo s x m sp d bb D ns c) (A B C : Int) (S T : ByteArray) : Calls Try.prog 15 #[.pointer (some ⟨d, 0, none⟩), opV 9 A B C S T] w (WritePost lo s x m sp d bb c w) := by
  unfold opV WritePost
  have f1 := (Fr.refl (fun _ => False) w).alloc (.cells #[.int .i64 9, .int .i64 A, .int .i64 B, .int .i64 C, .string S, .string T] 37)
  have h := h0.frame f1
  have c0 : (w.alloc (.cells #[.int .i64 9, .int .i64 A, .int .i64 B, .int .i64 C, .string S, .string T] 37)).cell? ⟨d, 0, none⟩ = some (.string D.pat) := h.desk.cell (by omega)
  have c1 : (w.alloc (.cells #[.int .i64 9, .int .i64 A, .int .i64 B, .int .i64 C, .string S, .string T] 37)).cell? ⟨d, 1, none⟩ = some (.string D.sub) := h.desk.cell (by omega)
  have z0 := h.desk.frozen
  have hdl := h.desk.lt
  have hlo := h.lod
  go_enter Try.func15, Try.ntmps15
  go_wp2_with fail
  first | go_end0 | refine bodyPost_ret (v := .tuple #[]) (by simp [results, Try.results15, go_sem]) rfl ?_
  have h2 := (h.setPat ⟨#[]⟩ (by show (0 : Nat) ≤ 129; omega)).setSub ⟨#[]⟩ (by show (0 : Nat) ≤ 257; omega)
  exact ⟨rfl, ⟨_, _, h2⟩, ((f1.mono (S' := fun b => lo ≤ b) (fun _ _ h => h.elim)).setC d 0 _ (fun _ => hlo)).setC d 1 _ (fun _ => hlo)⟩
set_option maxRecDepth 100000 in
set_option maxHeartbeats 4000000 in
theorem write_other (h0 : LawInv w lo s x m sp d bb D ns c) (kind A B C : Int) (S T : ByteArray) (h1 : kind ≠ 1) (h2 : kind ≠ 2) (h9 : kind ≠ 9) : Calls Try.prog 15 #[.pointer (some ⟨d, 0, none⟩), opV kind A B C S T] w (WritePost lo s x m sp d bb c w) := by
  unfold opV WritePost
  have f1 := (Fr.refl (fun _ => False) w).alloc (.cells #[.int .i64 kind, .int .i64 A, .int .i64 B, .int .i64 C, .string S, .string T] 37)
  have h := h0.frame f1
  have t1 : (kind == 1) = false := by simpa using h1
  have t2 : (kind == 2) = false := by simpa using h2
  have t9 : (kind == 9) = false := by simpa using h9
  clear h1 h2 h9
  go_enter Try.func15, Try.ntmps15
  go_wp2_with fail
  first | go_end0 | refine bodyPost_ret (v := .tuple #[]) (by simp [results, Try.results15, go_sem]) rfl ?_
  exact ⟨rfl, ⟨_, _, h⟩, f1.mono (fun _ _ h => h.elim)⟩
theorem write_any (h : LawInv w lo s x m sp d bb D ns c) (kind A B C : Int) (S T : ByteArray) : Calls Try.prog 15 #[.pointer (some ⟨d, 0, none⟩), opV kind A B C S T] w (WritePost lo s x m sp d bb c w) := by
  by_cases h1 : kind = 1
  · subst h1; exact write_text h A B C S T
  · by_cases h2 : kind = 2
    · subst h2; exact write_sub h A B C S T
    · by_cases h9 : kind = 9
      · subst h9; exact write_fresh h A B C S T
      · exact write_other h kind A B C S T h1 h2 h9
theorem boxB (w : World) (x : Nat) (o : Obj) : Blk ((w.alloc (.cells #[.pointer (some ⟨x, 0, none⟩)] 27)).alloc o) w.heap.size 1 (fun _ => .pointer (some ⟨x, 0, none⟩)) :=
  (Blk.new w _ _ _ fun o ho => by
    obtain rfl : o = 0 := by simpa using ho
    rfl).alloc o
set_option maxRecDepth 100000 in
set_option maxHeartbeats 4000000 in
theorem play_check (h0 : LawInv w lo s x m sp d bb D ns c) (A B C : Int) (S T : ByteArray) : Calls Try.prog 27 #[.agg #[.pointer (some ⟨x, 0, none⟩)], .pointer (some ⟨s, 0, none⟩), .pointer (some ⟨m, 0, none⟩), .pointer (some ⟨d, 0, none⟩), opV 4 A B C S T] w (PlayPost lo s x m sp d bb c w) := by
  unfold opV PlayPost
  have f1 := ((Fr.refl (fun _ => False) w).alloc (.cells #[.pointer (some ⟨x, 0, none⟩)] 27)).alloc (.cells #[.int .i64 4, .int .i64 A, .int .i64 B, .int .i64 C, .string S, .string T] 37)
  have h := h0.frame f1
  go_enter Try.func27, Try.ntmps27
  go_wp2_with fail
  refine (check_any h.real).mono ?_
  rintro e w2 ⟨rfl, f2⟩
  go_wp2_with fail
  go_ret
  exact ⟨rfl, ⟨_, _, _, Nat.le_succ _, h.frame f2⟩, (f1.trans f2 (fun _ _ h => h)).mono (fun _ _ h => h.elim)⟩
set_option maxRecDepth 100000 in
set_option maxHeartbeats 4000000 in
theorem play_other (h0 : LawInv w lo s x m sp d bb D ns c) (kind A B C : Int) (S T : ByteArray) (h3 : kind ≠ 3) (h4 : kind ≠ 4) : Calls Try.prog 27 #[.agg #[.pointer (some ⟨x, 0, none⟩)], .pointer (some ⟨s, 0, none⟩), .pointer (some ⟨m, 0, none⟩), .pointer (some ⟨d, 0, none⟩), opV kind A B C S T] w (PlayPost lo s x m sp d bb c w) := by
  have hW : Hid (∀ w1, LawInv w1 lo s x m sp d bb D ns c → Calls Try.prog 15 #[.pointer (some ⟨d, 0, none⟩), opV kind A B C S T] w1 (WritePost lo s x m sp d bb c w1)) := fun w1 h => write_any h kind A B C S T
  unfold opV at hW ⊢
  unfold PlayPost
  have f1 := ((Fr.refl (fun _ => False) w).alloc (.cells #[.pointer (some ⟨x, 0, none⟩)] 27)).alloc (.cells #[.int .i64 kind, .int .i64 A, .int .i64 B, .int .i64 C, .string S, .string T] 37)
  have h := h0.frame f1
  have t3 : (kind == 3) = false := by simpa using h3
  have t4 : (kind == 4) = false := by simpa using h4
  clear h3 h4
  go_enter Try.func27, Try.ntmps27
  go_wp2_with fail
  refine (hW.out _ h).mono ?_
  rintro e w2 ⟨rfl, ⟨D', ns', hL⟩, f2⟩
  go_wp2_with fail
  go_ret
  exact ⟨rfl, ⟨_, _, _, Nat.le_succ _, hL⟩, (f1.mono (fun _ _ h => h.elim)).trans f2 (fun _ _ h => h)⟩
set_option maxRecDepth 100000 in
set_option maxHeartbeats 4000000 in
theorem play_go (h0 : LawInv w lo s x m sp d bb D ns c) (hc : c ≤ 9999999999999) (A B C : Int) (S T : ByteArray) : Calls Try.prog 27 #[.agg #[.pointer (some ⟨x, 0, none⟩)], .pointer (some ⟨s, 0, none⟩), .pointer (some ⟨m, 0, none⟩), .pointer (some ⟨d, 0, none⟩), opV 3 A B C S T] w (PlayPost lo s x m sp d bb c w) := by
  unfold opV PlayPost
  have f1 := ((Fr.refl (fun _ => False) w).alloc (.cells #[.pointer (some ⟨x, 0, none⟩)] 27)).alloc (.cells #[.int .i64 3, .int .i64 A, .int .i64 B, .int .i64 C, .string S, .string T] 37)
  have h := h0.frame f1
  have hbx := boxB w x (.cells #[.int .i64 3, .int .i64 A, .int .i64 B, .int .i64 C, .string S, .string T] 37)
  have bx0 := hbx.drew.cell (o := 0) (by omega)
  have hbl := hbx.drew.lt
  have c0 : ((w.alloc (.cells #[.pointer (some ⟨x, 0, none⟩)] 27)).alloc (.cells #[.int .i64 3, .int .i64 A, .int .i64 B, .int .i64 C, .string S, .string T] 37)).cell? ⟨d, 0, none⟩ = some (.string D.pat) := h.desk.cell (by omega)
  have c1 : ((w.alloc (.cells #[.pointer (some ⟨x, 0, none⟩)] 27)).alloc (.cells #[.int .i64 3, .int .i64 A, .int .i64 B, .int .i64 C, .string S, .string T] 37)).cell? ⟨d, 1, none⟩ = some (.string D.sub) := h.desk.cell (by omega)
  have z0 := h.desk.frozen
  have hdl := h.desk.lt
  have hlo := h.lod
  have H2 : Hid _ := h.frame (Fr.refl (fun _ => False) _).drew
  have F2 := f1.drew
  go_enter Try.func27, Try.ntmps27
  go_wp2_with fail
  refine wp_region_text (by kernel_rfl) (by kernel_rfl) ?_
  go_wp2_with fail
  refine (lengthen_any D.pat S h.pat _).mono ?_
  rintro e w2 ⟨⟨t, rfl, ht⟩, rfl⟩
  go_wp2_with fail
  refine ⟨by kernel_rfl, ?_⟩
  go_wp2_with fail
  refine (sameCore_any H2.out hc t).mono ?_
  rintro e w3 ⟨rfl, ⟨D', ns', _, hL⟩, f3⟩
  go_wp2_with fail
  go_ret
  exact ⟨rfl, ⟨_, _, _, Nat.le_refl _, hL⟩, (F2.mono (fun _ _ h => h.elim)).trans f3 (fun _ _ h => h)⟩
theorem play_any (h : LawInv w lo s x m sp d bb D ns c) (hc : c ≤ 9999999999999) (kind A B C : Int) (S T : ByteArray) : Calls Try.prog 27 #[.agg #[.pointer (some ⟨x, 0, none⟩)], .pointer (some ⟨s, 0, none⟩), .pointer (some ⟨m, 0, none⟩), .pointer (some ⟨d, 0, none⟩), opV kind A B C S T] w (PlayPost lo s x m sp d bb c w) := by
  by_cases h3 : kind = 3
  · subst h3; exact play_go h hc A B C S T
  · by_cases h4 : kind = 4
    · subst h4; exact play_check h A B C S T
    · exact play_other h kind A B C S T h3 h4
end
end Go.Proofs.Qxb6500286a
