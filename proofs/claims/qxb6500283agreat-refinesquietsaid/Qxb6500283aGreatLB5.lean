/- The law: Lengthen, Play. -/
import Derived.Test.Qxb6500283aGreatLB2
import Derived.Test.Qxb6500283aGreatLB2b
import Derived.Test.Qxb6500283aGreatLB3
import Derived.Test.Qxb6500283aGreatLB4
namespace Go.Proofs.Qxb6500283aGreat
open Go Go.RowKit

set_option maxRecDepth 100000 in
set_option maxHeartbeats 1000000 in
theorem lengthenF (reg s : ByteArray) (m : Int) (h1 : 0 < m) (h2 : m < 1000) (hr : reg.size ≤ 9223372036854775807) (hs : s.size ≤ 9223372036854775807) (w : World) : Calls Tryz.prog 11 #[.string reg, .string s, .int .i64 m] w fun e w' => (∃ t : ByteArray, e = .returned (.string t) ∧ t.size ≤ 9223372036854775807) ∧ w' = w := by
  by_cases h3 : m + 1 - (reg.size : Int) ≤ 0
  · go_enter Tryz.func11, Tryz.ntmps11
    go_wp2
    go_ret
    exact ⟨⟨_, rfl, hr⟩, rfl⟩
  · have h3' : 0 < m + 1 - (reg.size : Int) := by omega
    have h5 : (reg.size : Int) < 1001 := by omega
    clear h3
    by_cases h4 : m + 1 - (reg.size : Int) < s.size
    · go_enter Tryz.func11, Tryz.ntmps11
      go_wp2
      go_ret
      refine ⟨⟨_, rfl, ?_⟩, rfl⟩
      rw [ByteArray.size_append, ByteArray.size_extract]
      omega
    · have h6 : (s.size : Int) < 1001 := by omega
      go_enter Tryz.func11, Tryz.ntmps11
      go_wp2
      go_ret
      refine ⟨⟨_, rfl, ?_⟩, rfl⟩
      rw [ByteArray.size_append]
      omega

def opV (kind A B C : Int) (S T : ByteArray) : Value := .agg #[.int .i64 kind, .int .i64 A, .int .i64 B, .int .i64 C, .string S, .string T]
theorem dk_pat (D : Dk) (t : ByteArray) : ∀ o, o < 16 → upd (dkCell D) 0 (.string t) o = dkCell { D with pat := t } o := by
  intro o ho
  rcases lt16F ho with rfl | rfl | rfl | rfl | rfl | rfl | rfl | rfl | rfl | rfl | rfl | rfl | rfl | rfl | rfl | rfl <;> simp [dkCell, upd]
theorem dk_sub (D : Dk) (t : ByteArray) : ∀ o, o < 16 → upd (dkCell D) 1 (.string t) o = dkCell { D with sub := t } o := by
  intro o ho
  rcases lt16F ho with rfl | rfl | rfl | rfl | rfl | rfl | rfl | rfl | rfl | rfl | rfl | rfl | rfl | rfl | rfl | rfl <;> simp [dkCell, upd]
section
variable {w : World} {A : Fa} {B : Ma} {d : Nat} {D : Dk} {G K : Nat}
theorem Law.setPat {Y : Nat → Prop} (L : Law w A B d Y D G K) (t : ByteArray) (ht : t.size ≤ 9223372036854775807) : Law (w.setCell ⟨d, 0, none⟩ (.string t)) A B d Y { D with pat := t } G K :=
  Law.reg (p := t) (s := D.sub) ht L.sz.2 L ((Fr.refl (fun c => c = d) w).setC d 0 (.string t) (fun _ => rfl)) ((L.dk.set 0 (.string t)).congr (dk_pat D t))
theorem Law.setSub {Y : Nat → Prop} (L : Law w A B d Y D G K) (t : ByteArray) (ht : t.size ≤ 9223372036854775807) : Law (w.setCell ⟨d, 1, none⟩ (.string t)) A B d Y { D with sub := t } G K :=
  Law.reg (p := D.pat) (s := t) L.sz.1 ht L ((Fr.refl (fun c => c = d) w).setC d 1 (.string t) (fun _ => rfl)) ((L.dk.set 1 (.string t)).congr (dk_sub D t))
set_option maxRecDepth 100000 in
set_option maxHeartbeats 8000000 in
theorem play1 (L0 : Law w A B d (fun _ => False) D G K) (p : Option Addr) (a b c : Int) (S T : ByteArray) (hS : S.size ≤ 9223372036854775807) : Calls Tryz.prog 16 #[.agg #[.pointer p], .pointer (some ⟨A.fb, 0, none⟩), .pointer (some ⟨B.mb, 0, none⟩), .pointer (some ⟨d, 0, none⟩), opV 1 a b c S T] w (PPost w A B d D G K) := by
  unfold opV
  have f1 := ((Fr.refl (fun _ => False) w).alloc (.cells #[.pointer p] 31)).alloc (.cells #[.int .i64 1, .int .i64 a, .int .i64 b, .int .i64 c, .string S, .string T] 34)
  have L := L0.same f1
  have F1 : Fr (PW A B d D) w _ := f1.mono (fun _ _ h => h.elim)
  have c0 := L.regs.1
  have z0 := L.dk.frozen
  have hdl := L.dk.lt
  go_enter Tryz.func16, Tryz.ntmps16
  go_wp2_with fail
  refine wp_region_text (by kernel_rfl) (by kernel_rfl) ?_
  go_wp2_with fail
  refine (lengthenF D.pat S 128 (by omega) (by omega) L.sz.1 hS _).mono ?_
  rintro e w2 ⟨⟨t, rfl, hts⟩, rfl⟩
  go_wp2_with fail
  refine ⟨by kernel_rfl, ?_⟩
  go_wp2_with fail
  refine bodyPost_ret (v := .bool true) (by simp [results, Tryz.results16, go_sem]) rfl ?_
  exact ⟨rfl, ⟨_, ((L.setPat t hts).same (Fr.refl (fun _ => False) _).drew).le (by omega) (by omega)⟩, (F1.setC d 0 _ (fun _ => .inr (.inr (.inr (.inl rfl))))).drew⟩
set_option maxRecDepth 100000 in
set_option maxHeartbeats 8000000 in
theorem play2 (L0 : Law w A B d (fun _ => False) D G K) (p : Option Addr) (a b c : Int) (S T : ByteArray) (hS : S.size ≤ 9223372036854775807) : Calls Tryz.prog 16 #[.agg #[.pointer p], .pointer (some ⟨A.fb, 0, none⟩), .pointer (some ⟨B.mb, 0, none⟩), .pointer (some ⟨d, 0, none⟩), opV 2 a b c S T] w (PPost w A B d D G K) := by
  unfold opV
  have f1 := ((Fr.refl (fun _ => False) w).alloc (.cells #[.pointer p] 31)).alloc (.cells #[.int .i64 2, .int .i64 a, .int .i64 b, .int .i64 c, .string S, .string T] 34)
  have L := L0.same f1
  have F1 : Fr (PW A B d D) w _ := f1.mono (fun _ _ h => h.elim)
  have c0 := L.regs.2.1
  have z0 := L.dk.frozen
  have hdl := L.dk.lt
  go_enter Tryz.func16, Tryz.ntmps16
  go_wp2_with fail
  refine wp_region_text (by kernel_rfl) (by kernel_rfl) ?_
  go_wp2_with fail
  refine (lengthenF D.sub S 256 (by omega) (by omega) L.sz.2 hS _).mono ?_
  rintro e w2 ⟨⟨t, rfl, hts⟩, rfl⟩
  go_wp2_with fail
  refine ⟨by kernel_rfl, ?_⟩
  go_wp2_with fail
  refine bodyPost_ret (v := .bool true) (by simp [results, Tryz.results16, go_sem]) rfl ?_
  exact ⟨rfl, ⟨_, ((L.setSub t hts).same (Fr.refl (fun _ => False) _).drew).le (by omega) (by omega)⟩, (F1.setC d 1 _ (fun _ => .inr (.inr (.inr (.inl rfl))))).drew⟩
set_option maxRecDepth 100000 in
set_option maxHeartbeats 8000000 in
theorem play3 (L0 : Law w A B d (fun _ => False) D G K) (hG : G ≤ 700000000000000000) (hK : K ≤ 800000000000000000) (p : Option Addr) (a b c : Int) (S T : ByteArray) (_ : S.size ≤ 9223372036854775807) : Calls Tryz.prog 16 #[.agg #[.pointer p], .pointer (some ⟨A.fb, 0, none⟩), .pointer (some ⟨B.mb, 0, none⟩), .pointer (some ⟨d, 0, none⟩), opV 3 a b c S T] w (PPost w A B d D G K) := by
  unfold opV
  have f1 := ((Fr.refl (fun _ => False) w).alloc (.cells #[.pointer p] 31)).alloc (.cells #[.int .i64 3, .int .i64 a, .int .i64 b, .int .i64 c, .string S, .string T] 34)
  have L := L0.same f1
  have F1 : Fr (PW A B d D) w _ := f1.mono (fun _ _ h => h.elim)
  go_enter Tryz.func16, Tryz.ntmps16
  go_wp2_with fail
  refine (sameFind_any L hG hK p).mono ?_
  rintro e w2 ⟨rfl, ⟨D', L2⟩, f2⟩
  go_wp2_with fail
  refine bodyPost_ret (v := .bool true) (by simp [results, Tryz.results16, go_sem]) rfl ?_
  exact ⟨rfl, ⟨_, L2⟩, F1.trans f2 (fun _ _ h => h)⟩
set_option maxRecDepth 100000 in
set_option maxHeartbeats 8000000 in
theorem play4 (L0 : Law w A B d (fun _ => False) D G K) (p : Option Addr) (a b c : Int) (S T : ByteArray) (_ : S.size ≤ 9223372036854775807) : Calls Tryz.prog 16 #[.agg #[.pointer p], .pointer (some ⟨A.fb, 0, none⟩), .pointer (some ⟨B.mb, 0, none⟩), .pointer (some ⟨d, 0, none⟩), opV 4 a b c S T] w (PPost w A B d D G K) := by
  unfold opV
  have f1 := ((Fr.refl (fun _ => False) w).alloc (.cells #[.pointer p] 31)).alloc (.cells #[.int .i64 4, .int .i64 a, .int .i64 b, .int .i64 c, .string S, .string T] 34)
  have L := L0.same f1
  have F1 : Fr (PW A B d D) w _ := f1.mono (fun _ _ h => h.elim)
  obtain ⟨fc, fp, hF⟩ := L.fnd
  go_enter Tryz.func16, Tryz.ntmps16
  go_wp2_with fail
  refine (checkF hF.pm hF.sm hF.asc hF.ok).mono ?_
  rintro e w2 ⟨rfl, f2⟩
  go_wp2_with fail
  refine bodyPost_ret (v := .bool true) (by simp [results, Tryz.results16, go_sem]) rfl ?_
  exact ⟨rfl, ⟨_, (L.same f2).le (by omega) (by omega)⟩, F1.trans f2 (fun _ _ h => h.elim)⟩
set_option maxRecDepth 100000 in
set_option maxHeartbeats 8000000 in
theorem play5 (L0 : Law w A B d (fun _ => False) D G K) (hG : G ≤ 700000000000000000) (hK : K ≤ 800000000000000000) (p : Option Addr) (a b c : Int) (S T : ByteArray) (_ : S.size ≤ 9223372036854775807) : Calls Tryz.prog 16 #[.agg #[.pointer p], .pointer (some ⟨A.fb, 0, none⟩), .pointer (some ⟨B.mb, 0, none⟩), .pointer (some ⟨d, 0, none⟩), opV 5 a b c S T] w (PPost w A B d D G K) := by
  unfold opV
  have f1 := ((Fr.refl (fun _ => False) w).alloc (.cells #[.pointer p] 31)).alloc (.cells #[.int .i64 5, .int .i64 a, .int .i64 b, .int .i64 c, .string S, .string T] 34)
  have L := L0.same f1
  have F1 : Fr (PW A B d D) w _ := f1.mono (fun _ _ h => h.elim)
  go_enter Tryz.func16, Tryz.ntmps16
  go_wp2_with fail
  refine (sameFindAll_any L hG hK p).mono ?_
  rintro e w2 ⟨rfl, ⟨D', L2⟩, f2⟩
  go_wp2_with fail
  refine bodyPost_ret (v := .bool true) (by simp [results, Tryz.results16, go_sem]) rfl ?_
  exact ⟨rfl, ⟨_, L2⟩, F1.trans f2 (fun _ _ h => h)⟩
set_option maxRecDepth 100000 in
set_option maxHeartbeats 8000000 in
theorem play6 (L0 : Law w A B d (fun _ => False) D G K) (hG : G ≤ 700000000000000000) (hK : K ≤ 800000000000000000) (p : Option Addr) (a b c : Int) (S T : ByteArray) (_ : S.size ≤ 9223372036854775807) : Calls Tryz.prog 16 #[.agg #[.pointer p], .pointer (some ⟨A.fb, 0, none⟩), .pointer (some ⟨B.mb, 0, none⟩), .pointer (some ⟨d, 0, none⟩), opV 6 a b c S T] w (PPost w A B d D G K) := by
  unfold opV
  have f1 := ((Fr.refl (fun _ => False) w).alloc (.cells #[.pointer p] 31)).alloc (.cells #[.int .i64 6, .int .i64 a, .int .i64 b, .int .i64 c, .string S, .string T] 34)
  have L := L0.same f1
  have F1 : Fr (PW A B d D) w _ := f1.mono (fun _ _ h => h.elim)
  go_enter Tryz.func16, Tryz.ntmps16
  go_wp2_with fail
  refine (sameReplace_any L hG hK p T).mono ?_
  rintro e w2 ⟨rfl, ⟨D', L2⟩, f2⟩
  go_wp2_with fail
  refine bodyPost_ret (v := .bool true) (by simp [results, Tryz.results16, go_sem]) rfl ?_
  exact ⟨rfl, ⟨_, L2⟩, F1.trans f2 (fun _ _ h => h)⟩
set_option maxRecDepth 100000 in
set_option maxHeartbeats 8000000 in
theorem play7 (L0 : Law w A B d (fun _ => False) D G K) (hG : G ≤ 700000000000000000) (hK : K ≤ 800000000000000000) (p : Option Addr) (a b c : Int) (S T : ByteArray) (_ : S.size ≤ 9223372036854775807) : Calls Tryz.prog 16 #[.agg #[.pointer p], .pointer (some ⟨A.fb, 0, none⟩), .pointer (some ⟨B.mb, 0, none⟩), .pointer (some ⟨d, 0, none⟩), opV 7 a b c S T] w (PPost w A B d D G K) := by
  unfold opV
  have f1 := ((Fr.refl (fun _ => False) w).alloc (.cells #[.pointer p] 31)).alloc (.cells #[.int .i64 7, .int .i64 a, .int .i64 b, .int .i64 c, .string S, .string T] 34)
  have L := L0.same f1
  have F1 : Fr (PW A B d D) w _ := f1.mono (fun _ _ h => h.elim)
  go_enter Tryz.func16, Tryz.ntmps16
  go_wp2_with fail
  refine (sameSplit_any L hG hK p).mono ?_
  rintro e w2 ⟨rfl, ⟨D', L2⟩, f2⟩
  go_wp2_with fail
  refine bodyPost_ret (v := .bool true) (by simp [results, Tryz.results16, go_sem]) rfl ?_
  exact ⟨rfl, ⟨_, L2⟩, F1.trans f2 (fun _ _ h => h)⟩
set_option maxRecDepth 100000 in
set_option maxHeartbeats 8000000 in
theorem play8 (L0 : Law w A B d (fun _ => False) D G K) (p : Option Addr) (a b c : Int) (S T : ByteArray) (hS : S.size ≤ 9223372036854775807) : Calls Tryz.prog 16 #[.agg #[.pointer p], .pointer (some ⟨A.fb, 0, none⟩), .pointer (some ⟨B.mb, 0, none⟩), .pointer (some ⟨d, 0, none⟩), opV 8 a b c S T] w (PPost w A B d D G K) := by
  unfold opV
  have f1 := ((Fr.refl (fun _ => False) w).alloc (.cells #[.pointer p] 31)).alloc (.cells #[.int .i64 8, .int .i64 a, .int .i64 b, .int .i64 c, .string S, .string T] 34)
  have L := L0.same f1
  have F1 : Fr (PW A B d D) w _ := f1.mono (fun _ _ h => h.elim)
  have c0 := L.regs.1
  have z0 := L.dk.frozen
  have hdl := L.dk.lt
  go_enter Tryz.func16, Tryz.ntmps16
  go_wp2_with fail
  refine bodyPost_ret (v := .bool true) (by simp [results, Tryz.results16, go_sem]) rfl ?_
  exact ⟨rfl, ⟨_, (L.setPat S hS).le (by omega) (by omega)⟩, F1.setC d 0 _ (fun _ => .inr (.inr (.inr (.inl rfl))))⟩
set_option maxRecDepth 100000 in
set_option maxHeartbeats 8000000 in
theorem play10 (L0 : Law w A B d (fun _ => False) D G K) (p : Option Addr) (a b c : Int) (S T : ByteArray) (hS : S.size ≤ 9223372036854775807) : Calls Tryz.prog 16 #[.agg #[.pointer p], .pointer (some ⟨A.fb, 0, none⟩), .pointer (some ⟨B.mb, 0, none⟩), .pointer (some ⟨d, 0, none⟩), opV 10 a b c S T] w (PPost w A B d D G K) := by
  unfold opV
  have f1 := ((Fr.refl (fun _ => False) w).alloc (.cells #[.pointer p] 31)).alloc (.cells #[.int .i64 10, .int .i64 a, .int .i64 b, .int .i64 c, .string S, .string T] 34)
  have L := L0.same f1
  have F1 : Fr (PW A B d D) w _ := f1.mono (fun _ _ h => h.elim)
  have c0 := L.regs.2.1
  have z0 := L.dk.frozen
  have hdl := L.dk.lt
  go_enter Tryz.func16, Tryz.ntmps16
  go_wp2_with fail
  refine bodyPost_ret (v := .bool true) (by simp [results, Tryz.results16, go_sem]) rfl ?_
  exact ⟨rfl, ⟨_, (L.setSub S hS).le (by omega) (by omega)⟩, F1.setC d 1 _ (fun _ => .inr (.inr (.inr (.inl rfl))))⟩
set_option maxRecDepth 100000 in
set_option maxHeartbeats 8000000 in
theorem play9 (L0 : Law w A B d (fun _ => False) D G K) (p : Option Addr) (a b c : Int) (S T : ByteArray) (_ : S.size ≤ 9223372036854775807) : Calls Tryz.prog 16 #[.agg #[.pointer p], .pointer (some ⟨A.fb, 0, none⟩), .pointer (some ⟨B.mb, 0, none⟩), .pointer (some ⟨d, 0, none⟩), opV 9 a b c S T] w (PPost w A B d D G K) := by
  unfold opV
  have f1 := ((Fr.refl (fun _ => False) w).alloc (.cells #[.pointer p] 31)).alloc (.cells #[.int .i64 9, .int .i64 a, .int .i64 b, .int .i64 c, .string S, .string T] 34)
  have L := L0.same f1
  have F1 : Fr (PW A B d D) w _ := f1.mono (fun _ _ h => h.elim)
  obtain ⟨c0, c1, hdl⟩ := L.regs
  have z0 := L.dk.frozen
  go_enter Tryz.func16, Tryz.ntmps16
  go_wp2_with fail
  refine bodyPost_ret (v := .bool true) (by simp [results, Tryz.results16, go_sem]) rfl ?_
  exact ⟨rfl, ⟨_, ((L.setPat ⟨#[]⟩ (Nat.zero_le _)).setSub ⟨#[]⟩ (Nat.zero_le _)).le (by omega) (by omega)⟩, (F1.setC d 0 _ (fun _ => .inr (.inr (.inr (.inl rfl))))).setC d 1 _ (fun _ => .inr (.inr (.inr (.inl rfl))))⟩
set_option maxRecDepth 100000 in
set_option maxHeartbeats 8000000 in
theorem playN (L0 : Law w A B d (fun _ => False) D G K) (kind : Int) (h1 : kind ≠ 1) (h2 : kind ≠ 2) (h3 : kind ≠ 3) (h4 : kind ≠ 4) (h5 : kind ≠ 5) (h6 : kind ≠ 6) (h7 : kind ≠ 7) (h8 : kind ≠ 8) (h10 : kind ≠ 10) (h9 : kind ≠ 9) (p : Option Addr) (a b c : Int) (S T : ByteArray) (_ : S.size ≤ 9223372036854775807) : Calls Tryz.prog 16 #[.agg #[.pointer p], .pointer (some ⟨A.fb, 0, none⟩), .pointer (some ⟨B.mb, 0, none⟩), .pointer (some ⟨d, 0, none⟩), opV kind a b c S T] w (PPost w A B d D G K) := by
  unfold opV
  have f1 := ((Fr.refl (fun _ => False) w).alloc (.cells #[.pointer p] 31)).alloc (.cells #[.int .i64 kind, .int .i64 a, .int .i64 b, .int .i64 c, .string S, .string T] 34)
  have L := L0.same f1
  have F1 : Fr (PW A B d D) w _ := f1.mono (fun _ _ h => h.elim)
  have t1 : (kind == 1) = false := by simpa using h1
  have t2 : (kind == 2) = false := by simpa using h2
  have t3 : (kind == 3) = false := by simpa using h3
  have t4 : (kind == 4) = false := by simpa using h4
  have t5 : (kind == 5) = false := by simpa using h5
  have t6 : (kind == 6) = false := by simpa using h6
  have t7 : (kind == 7) = false := by simpa using h7
  have t8 : (kind == 8) = false := by simpa using h8
  have t10 : (kind == 10) = false := by simpa using h10
  have t9 : (kind == 9) = false := by simpa using h9
  clear h1 h2 h3 h4 h5 h6 h7 h8 h10 h9
  go_enter Tryz.func16, Tryz.ntmps16
  go_wp2_with fail
  refine bodyPost_ret (v := .bool true) (by simp [results, Tryz.results16, go_sem]) rfl ?_
  exact ⟨rfl, ⟨_, L.le (by omega) (by omega)⟩, F1⟩
theorem play_any (L : Law w A B d (fun _ => False) D G K) (hG : G ≤ 700000000000000000) (hK : K ≤ 800000000000000000) (p : Option Addr) (kind a b c : Int) (S T : ByteArray) (hS : S.size ≤ 9223372036854775807) : Calls Tryz.prog 16 #[.agg #[.pointer p], .pointer (some ⟨A.fb, 0, none⟩), .pointer (some ⟨B.mb, 0, none⟩), .pointer (some ⟨d, 0, none⟩), opV kind a b c S T] w (PPost w A B d D G K) := by
  by_cases h1 : kind = 1
  · subst h1; exact play1 L p a b c S T hS
  by_cases h2 : kind = 2
  · subst h2; exact play2 L p a b c S T hS
  by_cases h3 : kind = 3
  · subst h3; exact play3 L hG hK p a b c S T hS
  by_cases h4 : kind = 4
  · subst h4; exact play4 L p a b c S T hS
  by_cases h5 : kind = 5
  · subst h5; exact play5 L hG hK p a b c S T hS
  by_cases h6 : kind = 6
  · subst h6; exact play6 L hG hK p a b c S T hS
  by_cases h7 : kind = 7
  · subst h7; exact play7 L hG hK p a b c S T hS
  by_cases h8 : kind = 8
  · subst h8; exact play8 L p a b c S T hS
  by_cases h10 : kind = 10
  · subst h10; exact play10 L p a b c S T hS
  by_cases h9 : kind = 9
  · subst h9; exact play9 L p a b c S T hS
  exact playN L kind h1 h2 h3 h4 h5 h6 h7 h8 h10 h9 p a b c S T hS
end
end Go.Proofs.Qxb6500283aGreat
