/- The law: Play. -/
import Derived.Test.Qxb6500285aGreatLA5h
import Derived.Test.Qxb6500285aGreatLA6
namespace Go.Proofs.Qxb6500285aGreat
open Go Go.RowKit

set_option maxHeartbeats 400000 in
theorem lengthen_any (reg s : ByteArray) (hr : reg.size ≤ 129) (w : World) : Calls Tryz.prog 28 #[.string reg, .string s, .int .i64 128] w fun e w' => (∃ t : ByteArray, e = .returned (.string t) ∧ t.size ≤ 129) ∧ w' = w := by
  by_cases h1 : reg.size = 129
  · go_enter Tryz.func28, Tryz.ntmps28
    go_wp2
    go_ret
    exact ⟨⟨_, rfl, hr⟩, rfl⟩
  · have hr2 : reg.size < 129 := by omega
    clear hr h1
    by_cases h2 : (129 : Int) - reg.size < s.size
    · go_enter Tryz.func28, Tryz.ntmps28
      go_wp2
      go_ret
      refine ⟨⟨_, rfl, ?_⟩, rfl⟩
      simp [ByteArray.size_append, ByteArray.size_extract]
      omega
    · go_enter Tryz.func28, Tryz.ntmps28
      go_wp2
      go_ret
      refine ⟨⟨_, rfl, ?_⟩, rfl⟩
      simp [ByteArray.size_append]
      omega
set_option maxHeartbeats 400000 in
theorem lengthenS_any (reg s : ByteArray) (hr : reg.size ≤ 257) (w : World) : Calls Tryz.prog 28 #[.string reg, .string s, .int .i64 256] w fun e w' => (∃ t : ByteArray, e = .returned (.string t) ∧ t.size ≤ 257) ∧ w' = w := by
  by_cases h1 : reg.size = 257
  · go_enter Tryz.func28, Tryz.ntmps28
    go_wp2
    go_ret
    exact ⟨⟨_, rfl, hr⟩, rfl⟩
  · have hr2 : reg.size < 257 := by omega
    clear hr h1
    by_cases h2 : (257 : Int) - reg.size < s.size
    · go_enter Tryz.func28, Tryz.ntmps28
      go_wp2
      go_ret
      refine ⟨⟨_, rfl, ?_⟩, rfl⟩
      simp [ByteArray.size_append, ByteArray.size_extract]
      omega
    · go_enter Tryz.func28, Tryz.ntmps28
      go_wp2
      go_ret
      refine ⟨⟨_, rfl, ?_⟩, rfl⟩
      simp [ByteArray.size_append]
      omega
section
variable {w : World} {A : Ad} {D : Dk} {ns : List In} {g h n : Nat}
def opV (kind A B C : Int) (S T : ByteArray) : Value := .agg #[.int .i64 kind, .int .i64 A, .int .i64 B, .int .i64 C, .string S, .string T]
def patD (D : Dk) (t : ByteArray) : Dk := { D with pat := t }
def subD (D : Dk) (t : ByteArray) : Dk := { D with sub := t }
theorem dkCell_pat (D : Dk) (t : ByteArray) : ∀ o, o < 23 → upd (dkCell D) 0 (.string t) o = dkCell (patD D t) o := by
  intro o ho
  rcases lt23 ho with rfl | rfl | rfl | rfl | rfl | rfl | rfl | rfl | rfl | rfl | rfl | rfl | rfl | rfl | rfl | rfl | rfl | rfl | rfl | rfl | rfl | rfl | rfl <;> simp [dkCell, upd, patD]
theorem dkCell_sub (D : Dk) (t : ByteArray) : ∀ o, o < 23 → upd (dkCell D) 1 (.string t) o = dkCell (subD D t) o := by
  intro o ho
  rcases lt23 ho with rfl | rfl | rfl | rfl | rfl | rfl | rfl | rfl | rfl | rfl | rfl | rfl | rfl | rfl | rfl | rfl | rfl | rfl | rfl | rfl | rfl | rfl | rfl <;> simp [dkCell, upd, subD]
set_option maxRecDepth 100000 in
set_option maxHeartbeats 8000000 in
theorem play_text (L0 : Law w A (fun _ => False) D ns g h n) (a b c : Int) (S T : ByteArray) : Calls Tryz.prog 15 #[.pointer (some ⟨A.e, 0, none⟩), .pointer (some ⟨A.m, 0, none⟩), .pointer (some ⟨A.d, 0, none⟩), opV 1 a b c S T] w (PPost w A D g h n) := by
  unfold opV PPost
  have f1 := (Fr.refl (fun _ => False) w).alloc (.cells #[.int .i64 1, .int .i64 a, .int .i64 b, .int .i64 c, .string S, .string T] 52)
  have L := L0.same f1
  have F1 : Fr (PW A D) w _ := f1.mono (fun _ _ h => h.elim)
  have c0 : (w.alloc (.cells #[.int .i64 1, .int .i64 a, .int .i64 b, .int .i64 c, .string S, .string T] 52)).cell? ⟨A.d, 0, none⟩ = some (.string D.pat) := L.dk.cell (by omega)
  have z0 := L.dk.frozen
  have hdl := L.dk.lt
  go_enter Tryz.func15, Tryz.ntmps15
  go_wp2_with fail
  refine wp_region_text (by kernel_rfl) (by kernel_rfl) ?_
  go_wp2_with fail
  refine (lengthen_any D.pat S L.pt _).mono ?_
  rintro e w2 ⟨⟨t, rfl, ht⟩, rfl⟩
  go_wp2_with fail
  refine ⟨by kernel_rfl, ?_⟩
  go_wp2_with fail
  refine bodyPost_ret (v := .tuple #[.bool true, .int .i64 0]) (by simp [results, Tryz.results15, go_sem]) rfl ?_
  have k := (Fr.refl (fun c => c = A.d) (w.alloc (.cells #[.int .i64 1, .int .i64 a, .int .i64 b, .int .i64 c, .string S, .string T] 52))).setC A.d 0 (.string t) (fun _ => rfl)
  have L2 := (L.ofD k ((L.dk.set 0 (.string t)).congr (dkCell_pat D t)) rfl rfl rfl rfl ht L.sb L.kn).same (Fr.refl (fun _ => False) _).drew
  exact ⟨⟨_, rfl⟩, ⟨_, _, L2.le (by omega) (by omega) (by omega)⟩, (F1.setC A.d 0 _ (fun _ => .inr (.inr (.inl rfl)))).drew⟩
set_option maxRecDepth 100000 in
set_option maxHeartbeats 8000000 in
theorem play_sub (L0 : Law w A (fun _ => False) D ns g h n) (a b c : Int) (S T : ByteArray) : Calls Tryz.prog 15 #[.pointer (some ⟨A.e, 0, none⟩), .pointer (some ⟨A.m, 0, none⟩), .pointer (some ⟨A.d, 0, none⟩), opV 2 a b c S T] w (PPost w A D g h n) := by
  unfold opV PPost
  have f1 := (Fr.refl (fun _ => False) w).alloc (.cells #[.int .i64 2, .int .i64 a, .int .i64 b, .int .i64 c, .string S, .string T] 52)
  have L := L0.same f1
  have F1 : Fr (PW A D) w _ := f1.mono (fun _ _ h => h.elim)
  have c0 : (w.alloc (.cells #[.int .i64 2, .int .i64 a, .int .i64 b, .int .i64 c, .string S, .string T] 52)).cell? ⟨A.d, 1, none⟩ = some (.string D.sub) := L.dk.cell (by omega)
  have z0 := L.dk.frozen
  have hdl := L.dk.lt
  go_enter Tryz.func15, Tryz.ntmps15
  go_wp2_with fail
  refine wp_region_text (by kernel_rfl) (by kernel_rfl) ?_
  go_wp2_with fail
  refine (lengthenS_any D.sub S L.sb _).mono ?_
  rintro e w2 ⟨⟨t, rfl, ht⟩, rfl⟩
  go_wp2_with fail
  refine ⟨by kernel_rfl, ?_⟩
  go_wp2_with fail
  refine bodyPost_ret (v := .tuple #[.bool true, .int .i64 0]) (by simp [results, Tryz.results15, go_sem]) rfl ?_
  have k := (Fr.refl (fun c => c = A.d) (w.alloc (.cells #[.int .i64 2, .int .i64 a, .int .i64 b, .int .i64 c, .string S, .string T] 52))).setC A.d 1 (.string t) (fun _ => rfl)
  have L2 := (L.ofD k ((L.dk.set 1 (.string t)).congr (dkCell_sub D t)) rfl rfl rfl rfl L.pt ht L.kn).same (Fr.refl (fun _ => False) _).drew
  exact ⟨⟨_, rfl⟩, ⟨_, _, L2.le (by omega) (by omega) (by omega)⟩, (F1.setC A.d 1 _ (fun _ => .inr (.inr (.inl rfl)))).drew⟩
set_option maxRecDepth 100000 in
set_option maxHeartbeats 8000000 in
theorem play_fresh (L0 : Law w A (fun _ => False) D ns g h n) (a b c : Int) (S T : ByteArray) : Calls Tryz.prog 15 #[.pointer (some ⟨A.e, 0, none⟩), .pointer (some ⟨A.m, 0, none⟩), .pointer (some ⟨A.d, 0, none⟩), opV 9 a b c S T] w (PPost w A D g h n) := by
  unfold opV PPost
  have f1 := (Fr.refl (fun _ => False) w).alloc (.cells #[.int .i64 9, .int .i64 a, .int .i64 b, .int .i64 c, .string S, .string T] 52)
  have L := L0.same f1
  have F1 : Fr (PW A D) w _ := f1.mono (fun _ _ h => h.elim)
  have c0 := L.dk.cell (o := 0) (by omega)
  have c1 := L.dk.cell (o := 1) (by omega)
  have z0 := L.dk.frozen
  have hdl := L.dk.lt
  go_enter Tryz.func15, Tryz.ntmps15
  go_wp2_with fail
  refine bodyPost_ret (v := .tuple #[.bool true, .int .i64 0]) (by simp [results, Tryz.results15, go_sem]) rfl ?_
  have k := (Fr.refl (fun c => c = A.d) (w.alloc (.cells #[.int .i64 9, .int .i64 a, .int .i64 b, .int .i64 c, .string S, .string T] 52))).setC A.d 0 (.string ⟨#[]⟩) (fun _ => rfl)
  have L2 := L.ofD k ((L.dk.set 0 (.string ⟨#[]⟩)).congr (dkCell_pat D ⟨#[]⟩)) rfl rfl rfl rfl (by show (0 : Nat) ≤ 129; omega) L.sb L.kn
  have k2 := (Fr.refl (fun c => c = A.d) ((w.alloc (.cells #[.int .i64 9, .int .i64 a, .int .i64 b, .int .i64 c, .string S, .string T] 52)).setCell ⟨A.d, 0, none⟩ (.string ⟨#[]⟩))).setC A.d 1 (.string ⟨#[]⟩) (fun _ => rfl)
  have L3 := L2.ofD k2 ((L2.dk.set 1 (.string ⟨#[]⟩)).congr (dkCell_sub _ ⟨#[]⟩)) rfl rfl rfl rfl L2.pt (by show (0 : Nat) ≤ 257; omega) L2.kn
  exact ⟨⟨_, rfl⟩, ⟨_, _, L3.le (by omega) (by omega) (by omega)⟩, (F1.setC A.d 0 _ (fun _ => .inr (.inr (.inl rfl)))).setC A.d 1 _ (fun _ => .inr (.inr (.inl rfl)))⟩
set_option maxRecDepth 100000 in
set_option maxHeartbeats 8000000 in
theorem play_match (L0 : Law w A (fun _ => False) D ns g h n) (hh : h ≤ 9999999999998) (hn : n ≤ 10000000000000) (a b c : Int) (S T : ByteArray) : Calls Tryz.prog 15 #[.pointer (some ⟨A.e, 0, none⟩), .pointer (some ⟨A.m, 0, none⟩), .pointer (some ⟨A.d, 0, none⟩), opV 3 a b c S T] w (PPost w A D g h n) := by
  unfold opV PPost
  have f1 := (Fr.refl (fun _ => False) w).alloc (.cells #[.int .i64 3, .int .i64 a, .int .i64 b, .int .i64 c, .string S, .string T] 52)
  have L := L0.same f1
  have F1 : Fr (PW A D) w _ := f1.mono (fun _ _ h => h.elim)
  go_enter Tryz.func15, Tryz.ntmps15
  go_wp2_with fail
  refine (sameMatch_any L (by omega) hn a).mono ?_
  rintro e w2 ⟨⟨er, rfl⟩, ⟨D', ns', L2⟩, f2⟩
  go_wp2_with fail
  refine bodyPost_ret (v := .tuple #[.bool true, .int .i64 er]) (by simp [results, Tryz.results15, go_sem]) rfl ?_
  exact ⟨⟨_, rfl⟩, ⟨_, _, L2⟩, F1.trans f2 (fun _ _ h => h)⟩
set_option maxRecDepth 100000 in
set_option maxHeartbeats 8000000 in
theorem play_has (L0 : Law w A (fun _ => False) D ns g h n) (hg : g ≤ 900000000000000000) (hh : h ≤ 9999999999998) (hn : n ≤ 10000000000000) (a b c : Int) (S T : ByteArray) : Calls Tryz.prog 15 #[.pointer (some ⟨A.e, 0, none⟩), .pointer (some ⟨A.m, 0, none⟩), .pointer (some ⟨A.d, 0, none⟩), opV 5 a b c S T] w (PPost w A D g h n) := by
  unfold opV PPost
  have f1 := (Fr.refl (fun _ => False) w).alloc (.cells #[.int .i64 5, .int .i64 a, .int .i64 b, .int .i64 c, .string S, .string T] 52)
  have L := L0.same f1
  have F1 : Fr (PW A D) w _ := f1.mono (fun _ _ h => h.elim)
  go_enter Tryz.func15, Tryz.ntmps15
  go_wp2_with fail
  refine (sameHas_any L hg (by omega) hn a).mono ?_
  rintro e w2 ⟨⟨er, rfl⟩, ⟨D', ns', L2⟩, f2⟩
  go_wp2_with fail
  refine bodyPost_ret (v := .tuple #[.bool true, .int .i64 er]) (by simp [results, Tryz.results15, go_sem]) rfl ?_
  exact ⟨⟨_, rfl⟩, ⟨_, _, L2⟩, F1.trans f2 (fun _ _ h => h)⟩
set_option maxRecDepth 100000 in
set_option maxHeartbeats 8000000 in
theorem play_code (L0 : Law w A (fun _ => False) D ns g h n) (hh : h ≤ 9999999999998) (hn : n ≤ 10000000000000) (a b c : Int) (S T : ByteArray) : Calls Tryz.prog 15 #[.pointer (some ⟨A.e, 0, none⟩), .pointer (some ⟨A.m, 0, none⟩), .pointer (some ⟨A.d, 0, none⟩), opV 6 a b c S T] w (PPost w A D g h n) := by
  unfold opV PPost
  have f1 := (Fr.refl (fun _ => False) w).alloc (.cells #[.int .i64 6, .int .i64 a, .int .i64 b, .int .i64 c, .string S, .string T] 52)
  have L := L0.same f1
  have F1 : Fr (PW A D) w _ := f1.mono (fun _ _ h => h.elim)
  go_enter Tryz.func15, Tryz.ntmps15
  go_wp2_with fail
  refine (sameCode_any L hh hn).mono ?_
  rintro e w2 ⟨⟨er, rfl⟩, ⟨D', ns', L2⟩, f2⟩
  go_wp2_with fail
  refine bodyPost_ret (v := .tuple #[.bool true, .int .i64 er]) (by simp [results, Tryz.results15, go_sem]) rfl ?_
  exact ⟨⟨_, rfl⟩, ⟨_, _, L2⟩, F1.trans f2 (fun _ _ h => h)⟩
set_option maxRecDepth 100000 in
set_option maxHeartbeats 8000000 in
theorem play_check (L0 : Law w A (fun _ => False) D ns g h n) (a b c : Int) (S T : ByteArray) : Calls Tryz.prog 15 #[.pointer (some ⟨A.e, 0, none⟩), .pointer (some ⟨A.m, 0, none⟩), .pointer (some ⟨A.d, 0, none⟩), opV 4 a b c S T] w (PPost w A D g h n) := by
  unfold opV PPost
  have f1 := (Fr.refl (fun _ => False) w).alloc (.cells #[.int .i64 4, .int .i64 a, .int .i64 b, .int .i64 c, .string S, .string T] 52)
  have L := L0.same f1
  have F1 : Fr (PW A D) w _ := f1.mono (fun _ _ h => h.elim)
  obtain ⟨a', b', hE⟩ := L.eng
  go_enter Tryz.func15, Tryz.ntmps15
  go_wp2_with fail
  refine (checkG hE).mono ?_
  rintro e w2 ⟨rfl, f2⟩
  go_wp2_with fail
  refine bodyPost_ret (v := .tuple #[.bool true, .int .i64 0]) (by simp [results, Tryz.results15, go_sem]) rfl ?_
  exact ⟨⟨_, rfl⟩, ⟨_, _, (L.same f2).le (by omega) (by omega) (by omega)⟩, F1.trans f2 (fun _ _ h => h.elim)⟩
set_option maxRecDepth 100000 in
set_option maxHeartbeats 8000000 in
theorem play_other (L0 : Law w A (fun _ => False) D ns g h n) (kind : Int) (a b c : Int) (S T : ByteArray) (h1 : kind ≠ 1) (h2 : kind ≠ 2) (h3 : kind ≠ 3) (h4 : kind ≠ 4) (h5 : kind ≠ 5) (h6 : kind ≠ 6) (h9 : kind ≠ 9) : Calls Tryz.prog 15 #[.pointer (some ⟨A.e, 0, none⟩), .pointer (some ⟨A.m, 0, none⟩), .pointer (some ⟨A.d, 0, none⟩), opV kind a b c S T] w (PPost w A D g h n) := by
  unfold opV PPost
  have f1 := (Fr.refl (fun _ => False) w).alloc (.cells #[.int .i64 kind, .int .i64 a, .int .i64 b, .int .i64 c, .string S, .string T] 52)
  have L := L0.same f1
  have F1 : Fr (PW A D) w _ := f1.mono (fun _ _ h => h.elim)
  have t1 : (kind == 1) = false := by simpa using h1
  have t2 : (kind == 2) = false := by simpa using h2
  have t3 : (kind == 3) = false := by simpa using h3
  have t4 : (kind == 4) = false := by simpa using h4
  have t5 : (kind == 5) = false := by simpa using h5
  have t6 : (kind == 6) = false := by simpa using h6
  have t9 : (kind == 9) = false := by simpa using h9
  clear h1 h2 h3 h4 h5 h6 h9
  go_enter Tryz.func15, Tryz.ntmps15
  go_wp2_with fail
  refine bodyPost_ret (v := .tuple #[.bool true, .int .i64 0]) (by simp [results, Tryz.results15, go_sem]) rfl ?_
  exact ⟨⟨_, rfl⟩, ⟨_, _, L.le (by omega) (by omega) (by omega)⟩, F1⟩
theorem play_any (L : Law w A (fun _ => False) D ns g h n) (hg : g ≤ 900000000000000000) (hh : h ≤ 9999999999998) (hn : n ≤ 10000000000000) (kind a b c : Int) (S T : ByteArray) : Calls Tryz.prog 15 #[.pointer (some ⟨A.e, 0, none⟩), .pointer (some ⟨A.m, 0, none⟩), .pointer (some ⟨A.d, 0, none⟩), opV kind a b c S T] w (PPost w A D g h n) := by
  by_cases h1 : kind = 1
  · subst h1; exact play_text L a b c S T
  by_cases h2 : kind = 2
  · subst h2; exact play_sub L a b c S T
  by_cases h3 : kind = 3
  · subst h3; exact play_match L hh hn a b c S T
  by_cases h4 : kind = 4
  · subst h4; exact play_check L a b c S T
  by_cases h5 : kind = 5
  · subst h5; exact play_has L hg hh hn a b c S T
  by_cases h6 : kind = 6
  · subst h6; exact play_code L hh hn a b c S T
  by_cases h9 : kind = 9
  · subst h9; exact play_fresh L a b c S T
  exact play_other L kind a b c S T h1 h2 h3 h4 h5 h6 h9
end
end Go.Proofs.Qxb6500285aGreat
