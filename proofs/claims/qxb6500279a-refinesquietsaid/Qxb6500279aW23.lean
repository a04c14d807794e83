import Derived.Test.Qxb6500279aW22
namespace Go.Proofs.Qxb6500279a
open Go Go.RowKit

set_option maxRecDepth 100000 in
set_option maxHeartbeats 4000000 in
theorem join_any (reg s : ByteArray) (hr : reg.size ≤ 4097) (w : World) : Calls Try.prog 21 #[.string reg, .string s, .int .i64 4096] w fun e w' => (∃ t : ByteArray, e = .returned (.string t) ∧ t.size ≤ 4097) ∧ w' = w := by
  by_cases h1 : reg.size = 4097
  · go_enter Try.func21, Try.ntmps21
    go_wp2
    go_ret
    exact ⟨⟨_, rfl, hr⟩, rfl⟩
  · have hr2 : reg.size < 4097 := by omega
    clear hr h1
    by_cases h2 : (4097 : Int) - reg.size < s.size
    · go_enter Try.func21, Try.ntmps21
      go_wp2
      go_ret
      refine ⟨⟨_, rfl, ?_⟩, rfl⟩
      simp [ByteArray.size_append, ByteArray.size_extract]
      omega
    · go_enter Try.func21, Try.ntmps21
      go_wp2
      go_ret
      refine ⟨⟨_, rfl, ?_⟩, rfl⟩
      simp [ByteArray.size_append]
      omega

section
variable {w : World} {lo base x d : Nat} {mp : Value} {D : DD} {bb : Nat} {r : R} {ts : List Tok} {ml : List (Nat × Nat)}
set_option maxHeartbeats 400000 in
theorem sameCheck_any (h : LawInv w lo base x d mp D bb r ts ml) : Calls Try.prog 20 #[.pointer (some ⟨d, 0, none⟩)] w fun e w' => e = .returned (.bool true) ∧ Fr (fun _ => False) w w' := by
  have c0 : w.cell? ⟨d, 0, none⟩ = some (.pointer (some ⟨x, 0, none⟩)) := h.desk.cell (by omega)
  go_enter Try.func20, Try.ntmps20
  go_wp2_with fail
  refine (check_any h.lex h.chk).mono ?_
  rintro e w2 ⟨rfl, f2⟩
  go_wp2_with fail
  go_ret
  exact ⟨rfl, f2⟩
set_option maxHeartbeats 400000 in
theorem alike_any (h : LawInv w lo base x d mp D bb r ts ml) : Calls Try.prog 13 #[.pointer (some ⟨d, 0, none⟩)] w fun e w' => e = .returned (.bool true) ∧ Fr (fun _ => False) w w' := by
  go_enter Try.func13, Try.ntmps13
  go_wp2_with fail
  refine (sameCheck_any h).mono ?_
  rintro e w2 ⟨rfl, f2⟩
  go_wp2_with fail
  go_ret
  exact ⟨rfl, f2⟩
theorem dcell_text (x : Nat) (mp : Value) (D : DD) (t : ByteArray) : ∀ o, o < 10 → upd (dcell x mp D) 2 (.string t) o = dcell x mp { D with text := t } o := by
  intro o ho
  rcases (show o = 0 ∨ o = 1 ∨ o = 2 ∨ o = 3 ∨ o = 4 ∨ o = 5 ∨ o = 6 ∨ o = 7 ∨ o = 8 ∨ o = 9 by omega) with rfl | rfl | rfl | rfl | rfl | rfl | rfl | rfl | rfl | rfl <;> simp [dcell, upd]
theorem LawInv.setText (h : LawInv w lo base x d mp D bb r ts ml) (t : ByteArray) (ht : t.size ≤ 4097) : LawInv (w.setCell ⟨d, 2, none⟩ (.string t)) lo base x d mp { D with text := t } bb r ts ml := by
  have k : Fr (fun c => c = d) w (w.setCell ⟨d, 2, none⟩ (.string t)) := (Fr.refl _ _).setC _ _ _ (fun _ => rfl)
  have hl := h.lay
  exact ⟨h.lex.frame k (show ¬ (x = d) by omega) (show ¬ (bb = d) by omega), h.chk, (h.desk.set 2 _).congr (dcell_text x mp D t), h.lx.frame k (fun b hb e => by have := h.bxb b hb; omega), h.lm.frame k (fun b hb e => by have := h.bmb b hb; omega), h.tl,
    h.mine.frame k (fun b hb e => by have := h.mvb b hb; omega), h.ml16, fun p hp => (h.st p hp).frame k (show ¬ (p.1 = d) by have := h.mlb p hp; omega), h.bxb, h.bmb, h.mvb, h.mlb, ht, h.low, ⟨hl.1, hl.2.1, hl.2.2.1, hl.2.2.2.1, by simpa using hl.2.2.2.2⟩, h.mpv⟩
def opV (kind A B C : Int) (S T : ByteArray) : Value := .agg #[.int .i64 kind, .int .i64 A, .int .i64 B, .int .i64 C, .string S, .string T]
def PlayPost (lo base x d : Nat) (mp : Value) (w : World) : Ending → World → Prop := fun e w' =>
  e = .returned (.bool true) ∧ (∃ D' bb' r' ts' ml', LawInv w' lo base x d mp D' bb' r' ts' ml') ∧ Fr (fun b => lo ≤ b) w w'

set_option maxRecDepth 100000 in
set_option maxHeartbeats 4000000 in
theorem play_check (h : LawInv w lo base x d mp D bb r ts ml) (A B C : Int) (S T : ByteArray) : Calls Try.prog 14 #[.pointer (some ⟨d, 0, none⟩), opV 4 A B C S T] w (PlayPost lo base x d mp w) := by
  unfold opV PlayPost
  have f1 := (Fr.refl (fun _ => False) w).alloc (.cells #[.int .i64 4, .int .i64 A, .int .i64 B, .int .i64 C, .string S, .string T] 52)
  have h1 := h.frame f1
  go_enter Try.func14, Try.ntmps14
  go_wp2_with fail
  refine (sameCheck_any h1).mono ?_
  rintro e w2 ⟨rfl, f2⟩
  go_wp2_with fail
  go_ret
  exact ⟨rfl, ⟨_, _, _, _, _, h1.frame f2⟩, (f1.trans f2 (fun _ _ h => h)).mono (fun _ _ h => h.elim)⟩
set_option maxRecDepth 100000 in
set_option maxHeartbeats 4000000 in
theorem play_other (h : LawInv w lo base x d mp D bb r ts ml) (kind A B C : Int) (S T : ByteArray) (h1 : kind ≠ 1) (h3 : kind ≠ 3) (h4 : kind ≠ 4) : Calls Try.prog 14 #[.pointer (some ⟨d, 0, none⟩), opV kind A B C S T] w (PlayPost lo base x d mp w) := by
  unfold opV PlayPost
  have f1 := (Fr.refl (fun _ => False) w).alloc (.cells #[.int .i64 kind, .int .i64 A, .int .i64 B, .int .i64 C, .string S, .string T] 52)
  have hL1 := h.frame f1
  have t1 : (kind == 1) = false := by simpa using h1
  have t3 : (kind == 3) = false := by simpa using h3
  have t4 : (kind == 4) = false := by simpa using h4
  clear h1 h3 h4
  go_enter Try.func14, Try.ntmps14
  go_wp2_with fail
  go_ret
  exact ⟨rfl, ⟨_, _, _, _, _, hL1⟩, f1.mono (fun _ _ h => h.elim)⟩
set_option maxRecDepth 100000 in
set_option maxHeartbeats 4000000 in
theorem play_text (h : LawInv w lo base x d mp D bb r ts ml) (A B C : Int) (S T : ByteArray) : Calls Try.prog 14 #[.pointer (some ⟨d, 0, none⟩), opV 1 A B C S T] w (PlayPost lo base x d mp w) := by
  unfold opV PlayPost
  have f1 := (Fr.refl (fun _ => False) w).alloc (.cells #[.int .i64 1, .int .i64 A, .int .i64 B, .int .i64 C, .string S, .string T] 52)
  have c2 : w.cell? ⟨d, 2, none⟩ = some (.string D.text) := h.desk.cell (by omega)
  have z0 := h.desk.frozen
  have hdl := h.desk.lt
  have hlo := h.low.2.1
  go_enter Try.func14, Try.ntmps14
  go_wp2_with fail
  refine wp_region_text (by kernel_rfl) (by kernel_rfl) ?_
  go_wp2_with fail
  refine (join_any D.text S h.text _).mono ?_
  rintro e w2 ⟨⟨t, rfl, ht⟩, rfl⟩
  go_wp2_with fail
  refine ⟨by kernel_rfl, ?_⟩
  go_wp2_with fail
  go_ret
  have h2 := h.setText t ht
  refine ⟨rfl, ⟨_, _, _, _, _, (h2.frame (((Fr.refl (fun _ => False) _).alloc (.cells #[.int .i64 1, .int .i64 A, .int .i64 B, .int .i64 C, .string S, .string T] 52)).drew))⟩, ?_⟩
  exact ((((Fr.refl (fun b => lo ≤ b) w).setC d 2 _ (fun _ => hlo)).alloc _).drew)
set_option maxRecDepth 100000 in
set_option maxHeartbeats 4000000 in
theorem play_go (h : LawInv w lo base x d mp D bb r ts ml) (A B C : Int) (S T : ByteArray) : Calls Try.prog 14 #[.pointer (some ⟨d, 0, none⟩), opV 3 A B C S T] w (PlayPost lo base x d mp w) := by
  unfold opV PlayPost
  have c2 : w.cell? ⟨d, 2, none⟩ = some (.string D.text) := h.desk.cell (by omega)
  have z0 := h.desk.frozen
  have hdl := h.desk.lt
  have hlo := h.low.2.1
  have h2 := (h.setText ⟨#[]⟩ (by show (0 : Nat) ≤ 4097; omega)).frame (((Fr.refl (fun _ => False) _).alloc (.cells #[.int .i64 3, .int .i64 A, .int .i64 B, .int .i64 C, .string S, .string T] 52)).drew)
  have k2 : Fr (fun b => lo ≤ b) w ((w.setCell ⟨d, 2, none⟩ (.string ⟨#[]⟩)).alloc (.cells #[.int .i64 3, .int .i64 A, .int .i64 B, .int .i64 C, .string S, .string T] 52)).drew := (((Fr.refl (fun b => lo ≤ b) w).setC d 2 _ (fun _ => hlo)).alloc _).drew
  have H2 : Hid _ := h2
  have K2 : Hid _ := k2
  clear h2 k2
  go_enter Try.func14, Try.ntmps14
  go_wp2_with fail
  refine wp_region_text (by kernel_rfl) (by kernel_rfl) ?_
  go_wp2_with fail
  refine (join_any D.text S h.text _).mono ?_
  rintro e w2 ⟨⟨t, rfl, ht⟩, rfl⟩
  go_wp2_with fail
  refine ⟨by kernel_rfl, ?_⟩
  go_wp2_with fail
  refine (sameLex_any H2.out t).mono ?_
  rintro e w3 ⟨rfl, ⟨D', bb', r', ts', ml', hL, _⟩, f3⟩
  go_wp2_with fail
  go_ret
  exact ⟨rfl, ⟨_, _, _, _, _, hL⟩, K2.out.trans f3 (fun _ _ h => h)⟩
theorem play_any (h : LawInv w lo base x d mp D bb r ts ml) (kind A B C : Int) (S T : ByteArray) : Calls Try.prog 14 #[.pointer (some ⟨d, 0, none⟩), opV kind A B C S T] w (PlayPost lo base x d mp w) := by
  by_cases h1 : kind = 1
  · subst h1; exact play_text h A B C S T
  · by_cases h3 : kind = 3
    · subst h3; exact play_go h A B C S T
    · by_cases h4 : kind = 4
      · subst h4; exact play_check h A B C S T
      · exact play_other h kind A B C S T h1 h3 h4
end
end Go.Proofs.Qxb6500279a
