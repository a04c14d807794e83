/- The law: Play. -/
import Derived.Test.Qxb6500278aKL2
namespace Go.Proofs.Qxb6500278a
open Go Go.RowKit

def opV (kind a b c : Int) (s t : ByteArray) : Value := .agg #[.int .i64 kind, .int .i64 a, .int .i64 b, .int .i64 c, .string s, .string t]
section
variable {w w1 w2 w' : World} {h m : Nat} {S S' : HS} {M M' : MS} {O : Nat → Prop} {N : Nat} {al al' : Prop}
theorem Step.pre (k : Fr (fun _ => False) w w1) (h1 : Step w1 h m S O N al' w') (ha : al' → al) : Step w h m S O N al w' := by
  obtain ⟨S', M', O', L, hO, f, r⟩ := h1
  refine ⟨S', M', O', L, fun c hc => ?_, (k.mono (fun _ _ h => h.elim)).trans f (fun _ _ h => h), ?_⟩
  · rcases hO c hc with h | h
    · exact .inl h
    · have := k.size; exact .inr (by omega)
  · rcases r with r | ⟨h1, r⟩
    · exact .inl r
    · exact .inr ⟨ha h1, r⟩
set_option maxRecDepth 100000 in
set_option maxHeartbeats 4000000 in
theorem play1 (L0 : HLaw w h m S M O N) (a b c : Int) (s t : ByteArray) : Calls Try.prog 20 #[.pointer (some ⟨h, 0, none⟩), .pointer (some ⟨m, 0, none⟩), opV 1 a b c s t] w fun e w' => e = .returned (.bool true) ∧ Step w h m S O N ((1 : Int) = 2) w' := by
  unfold opV
  have f1 := (Fr.refl (fun _ => False) w).alloc (.cells #[.int .i64 1, .int .i64 a, .int .i64 b, .int .i64 c, .string s, .string t] 39)
  have L := L0.same f1
  go_enter Try.func20, Try.ntmps20
  go_wp2_with fail
  refine (samePush L).mono ?_
  rintro e w2 ⟨rfl, st⟩
  go_wp2_with fail
  refine bodyPost_ret (v := .bool true) (by simp [results, Try.results20, go_sem]) rfl ?_
  exact ⟨rfl, st.pre f1 (fun h => h.elim)⟩
set_option maxRecDepth 100000 in
set_option maxHeartbeats 4000000 in
theorem play2 (L0 : HLaw w h m S M O N) (hN : N ≤ 1000000000000000000) (a b c : Int) (s t : ByteArray) : Calls Try.prog 20 #[.pointer (some ⟨h, 0, none⟩), .pointer (some ⟨m, 0, none⟩), opV 2 a b c s t] w fun e w' => e = .returned (.bool true) ∧ Step w h m S O N ((2 : Int) = 2) w' := by
  unfold opV
  have f1 := (Fr.refl (fun _ => False) w).alloc (.cells #[.int .i64 2, .int .i64 a, .int .i64 b, .int .i64 c, .string s, .string t] 39)
  have L := L0.same f1
  go_enter Try.func20, Try.ntmps20
  go_wp2_with fail
  refine (sameAlloc L hN a b).mono ?_
  rintro e w2 ⟨rfl, st⟩
  go_wp2_with fail
  refine bodyPost_ret (v := .bool true) (by simp [results, Try.results20, go_sem]) rfl ?_
  exact ⟨rfl, st.pre f1 (fun _ => trivial)⟩
set_option maxRecDepth 100000 in
set_option maxHeartbeats 4000000 in
theorem play3 (L0 : HLaw w h m S M O N) (a b c : Int) (s t : ByteArray) : Calls Try.prog 20 #[.pointer (some ⟨h, 0, none⟩), .pointer (some ⟨m, 0, none⟩), opV 3 a b c s t] w fun e w' => e = .returned (.bool true) ∧ Step w h m S O N ((3 : Int) = 2) w' := by
  unfold opV
  have f1 := (Fr.refl (fun _ => False) w).alloc (.cells #[.int .i64 3, .int .i64 a, .int .i64 b, .int .i64 c, .string s, .string t] 39)
  have L := L0.same f1
  go_enter Try.func20, Try.ntmps20
  go_wp2_with fail
  refine (samePop L a).mono ?_
  rintro e w2 ⟨rfl, st⟩
  go_wp2_with fail
  refine bodyPost_ret (v := .bool true) (by simp [results, Try.results20, go_sem]) rfl ?_
  exact ⟨rfl, st.pre f1 (fun h => h.elim)⟩
set_option maxRecDepth 100000 in
set_option maxHeartbeats 4000000 in
theorem play4 (L0 : HLaw w h m S M O N) (a b c : Int) (s t : ByteArray) : Calls Try.prog 20 #[.pointer (some ⟨h, 0, none⟩), .pointer (some ⟨m, 0, none⟩), opV 4 a b c s t] w fun e w' => e = .returned (.bool true) ∧ Step w h m S O N ((4 : Int) = 2) w' := by
  unfold opV
  have f1 := (Fr.refl (fun _ => False) w).alloc (.cells #[.int .i64 4, .int .i64 a, .int .i64 b, .int .i64 c, .string s, .string t] 39)
  have L := L0.same f1
  go_enter Try.func20, Try.ntmps20
  go_wp2_with fail
  refine (sameSlide L a).mono ?_
  rintro e w2 ⟨rfl, st⟩
  go_wp2_with fail
  refine bodyPost_ret (v := .bool true) (by simp [results, Try.results20, go_sem]) rfl ?_
  exact ⟨rfl, st.pre f1 (fun h => h.elim)⟩
set_option maxRecDepth 100000 in
set_option maxHeartbeats 4000000 in
theorem play5 (L0 : HLaw w h m S M O N) (a b c : Int) (s t : ByteArray) : Calls Try.prog 20 #[.pointer (some ⟨h, 0, none⟩), .pointer (some ⟨m, 0, none⟩), opV 5 a b c s t] w fun e w' => e = .returned (.bool true) ∧ Step w h m S O N ((5 : Int) = 2) w' := by
  unfold opV
  have f1 := (Fr.refl (fun _ => False) w).alloc (.cells #[.int .i64 5, .int .i64 a, .int .i64 b, .int .i64 c, .string s, .string t] 39)
  have L := L0.same f1
  go_enter Try.func20, Try.ntmps20
  go_wp2_with fail
  refine (sameDup L a).mono ?_
  rintro e w2 ⟨rfl, st⟩
  go_wp2_with fail
  refine bodyPost_ret (v := .bool true) (by simp [results, Try.results20, go_sem]) rfl ?_
  exact ⟨rfl, st.pre f1 (fun h => h.elim)⟩
set_option maxRecDepth 100000 in
set_option maxHeartbeats 4000000 in
theorem play6 (L0 : HLaw w h m S M O N) (a b c : Int) (s t : ByteArray) : Calls Try.prog 20 #[.pointer (some ⟨h, 0, none⟩), .pointer (some ⟨m, 0, none⟩), opV 6 a b c s t] w fun e w' => e = .returned (.bool true) ∧ Step w h m S O N ((6 : Int) = 2) w' := by
  unfold opV
  have f1 := (Fr.refl (fun _ => False) w).alloc (.cells #[.int .i64 6, .int .i64 a, .int .i64 b, .int .i64 c, .string s, .string t] 39)
  have L := L0.same f1
  go_enter Try.func20, Try.ntmps20
  go_wp2_with fail
  refine (sameSet L a).mono ?_
  rintro e w2 ⟨rfl, st⟩
  go_wp2_with fail
  refine bodyPost_ret (v := .bool true) (by simp [results, Try.results20, go_sem]) rfl ?_
  exact ⟨rfl, st.pre f1 (fun h => h.elim)⟩
set_option maxRecDepth 100000 in
set_option maxHeartbeats 4000000 in
theorem play7 (L0 : HLaw w h m S M O N) (a b c : Int) (s t : ByteArray) : Calls Try.prog 20 #[.pointer (some ⟨h, 0, none⟩), .pointer (some ⟨m, 0, none⟩), opV 7 a b c s t] w fun e w' => e = .returned (.bool true) ∧ Step w h m S O N ((7 : Int) = 2) w' := by
  unfold opV
  have f1 := (Fr.refl (fun _ => False) w).alloc (.cells #[.int .i64 7, .int .i64 a, .int .i64 b, .int .i64 c, .string s, .string t] 39)
  have L := L0.same f1
  go_enter Try.func20, Try.ntmps20
  go_wp2_with fail
  refine (sameLen L a).mono ?_
  rintro e w2 ⟨rfl, f2⟩
  go_wp2_with fail
  refine bodyPost_ret (v := .bool true) (by simp [results, Try.results20, go_sem]) rfl ?_
  exact ⟨rfl, (Step.same (al := False) L f2).pre f1 (fun h => h.elim)⟩
set_option maxRecDepth 100000 in
set_option maxHeartbeats 4000000 in
theorem play8 (L0 : HLaw w h m S M O N) (a b c : Int) (s t : ByteArray) : Calls Try.prog 20 #[.pointer (some ⟨h, 0, none⟩), .pointer (some ⟨m, 0, none⟩), opV 8 a b c s t] w fun e w' => e = .returned (.bool true) ∧ Step w h m S O N ((8 : Int) = 2) w' := by
  unfold opV
  have f1 := (Fr.refl (fun _ => False) w).alloc (.cells #[.int .i64 8, .int .i64 a, .int .i64 b, .int .i64 c, .string s, .string t] 39)
  have L := L0.same f1
  go_enter Try.func20, Try.ntmps20
  go_wp2_with fail
  refine (sameLdInt L a b).mono ?_
  rintro e w2 ⟨rfl, hw⟩
  subst w2
  go_wp2_with fail
  refine bodyPost_ret (v := .bool true) (by simp [results, Try.results20, go_sem]) rfl ?_
  exact ⟨rfl, (Step.same (al := False) L (Fr.refl _ _)).pre f1 (fun h => h.elim)⟩
set_option maxRecDepth 100000 in
set_option maxHeartbeats 4000000 in
theorem play9 (L0 : HLaw w h m S M O N) (a b c : Int) (s t : ByteArray) : Calls Try.prog 20 #[.pointer (some ⟨h, 0, none⟩), .pointer (some ⟨m, 0, none⟩), opV 9 a b c s t] w fun e w' => e = .returned (.bool true) ∧ Step w h m S O N ((9 : Int) = 2) w' := by
  unfold opV
  have f1 := (Fr.refl (fun _ => False) w).alloc (.cells #[.int .i64 9, .int .i64 a, .int .i64 b, .int .i64 c, .string s, .string t] 39)
  have L := L0.same f1
  go_enter Try.func20, Try.ntmps20
  go_wp2_with fail
  refine (sameStInt L a b c).mono ?_
  rintro e w2 ⟨rfl, st⟩
  go_wp2_with fail
  refine bodyPost_ret (v := .bool true) (by simp [results, Try.results20, go_sem]) rfl ?_
  exact ⟨rfl, st.pre f1 (fun h => h.elim)⟩
set_option maxRecDepth 100000 in
set_option maxHeartbeats 4000000 in
theorem play10 (L0 : HLaw w h m S M O N) (a b c : Int) (s t : ByteArray) : Calls Try.prog 20 #[.pointer (some ⟨h, 0, none⟩), .pointer (some ⟨m, 0, none⟩), opV 10 a b c s t] w fun e w' => e = .returned (.bool true) ∧ Step w h m S O N ((10 : Int) = 2) w' := by
  unfold opV
  have f1 := (Fr.refl (fun _ => False) w).alloc (.cells #[.int .i64 10, .int .i64 a, .int .i64 b, .int .i64 c, .string s, .string t] 39)
  have L := L0.same f1
  go_enter Try.func20, Try.ntmps20
  go_wp2_with fail
  refine (sameLdRef L a b c).mono ?_
  rintro e w2 ⟨rfl, st⟩
  go_wp2_with fail
  refine bodyPost_ret (v := .bool true) (by simp [results, Try.results20, go_sem]) rfl ?_
  exact ⟨rfl, st.pre f1 (fun h => h.elim)⟩
set_option maxRecDepth 100000 in
set_option maxHeartbeats 4000000 in
theorem play11 (L0 : HLaw w h m S M O N) (a b c : Int) (s t : ByteArray) : Calls Try.prog 20 #[.pointer (some ⟨h, 0, none⟩), .pointer (some ⟨m, 0, none⟩), opV 11 a b c s t] w fun e w' => e = .returned (.bool true) ∧ Step w h m S O N ((11 : Int) = 2) w' := by
  unfold opV
  have f1 := (Fr.refl (fun _ => False) w).alloc (.cells #[.int .i64 11, .int .i64 a, .int .i64 b, .int .i64 c, .string s, .string t] 39)
  have L := L0.same f1
  go_enter Try.func20, Try.ntmps20
  go_wp2_with fail
  refine (sameStRef L a b c).mono ?_
  rintro e w2 ⟨rfl, st⟩
  go_wp2_with fail
  refine bodyPost_ret (v := .bool true) (by simp [results, Try.results20, go_sem]) rfl ?_
  exact ⟨rfl, st.pre f1 (fun h => h.elim)⟩
set_option maxRecDepth 100000 in
set_option maxHeartbeats 4000000 in
theorem play12 (L0 : HLaw w h m S M O N) (a b c : Int) (s t : ByteArray) : Calls Try.prog 20 #[.pointer (some ⟨h, 0, none⟩), .pointer (some ⟨m, 0, none⟩), opV 12 a b c s t] w fun e w' => e = .returned (.bool true) ∧ Step w h m S O N ((12 : Int) = 2) w' := by
  unfold opV
  have f1 := (Fr.refl (fun _ => False) w).alloc (.cells #[.int .i64 12, .int .i64 a, .int .i64 b, .int .i64 c, .string s, .string t] 39)
  have L := L0.same f1
  go_enter Try.func20, Try.ntmps20
  go_wp2_with fail
  refine (sameDepth L).mono ?_
  rintro e w2 ⟨rfl, hw⟩
  subst w2
  go_wp2_with fail
  refine bodyPost_ret (v := .bool true) (by simp [results, Try.results20, go_sem]) rfl ?_
  exact ⟨rfl, (Step.same (al := False) L (Fr.refl _ _)).pre f1 (fun h => h.elim)⟩
set_option maxRecDepth 100000 in
set_option maxHeartbeats 4000000 in
theorem play13 (L0 : HLaw w h m S M O N) (a b c : Int) (s t : ByteArray) : Calls Try.prog 20 #[.pointer (some ⟨h, 0, none⟩), .pointer (some ⟨m, 0, none⟩), opV 13 a b c s t] w fun e w' => e = .returned (.bool true) ∧ Step w h m S O N ((13 : Int) = 2) w' := by
  unfold opV
  have f1 := (Fr.refl (fun _ => False) w).alloc (.cells #[.int .i64 13, .int .i64 a, .int .i64 b, .int .i64 c, .string s, .string t] 39)
  have L := L0.same f1
  go_enter Try.func20, Try.ntmps20
  go_wp2_with fail
  refine (sameLive L).mono ?_
  rintro e w2 ⟨rfl, f2⟩
  go_wp2_with fail
  refine bodyPost_ret (v := .bool true) (by simp [results, Try.results20, go_sem]) rfl ?_
  exact ⟨rfl, (Step.same (al := False) L f2).pre f1 (fun h => h.elim)⟩
set_option maxRecDepth 100000 in
set_option maxHeartbeats 4000000 in
theorem play14 (L0 : HLaw w h m S M O N) (a b c : Int) (s t : ByteArray) : Calls Try.prog 20 #[.pointer (some ⟨h, 0, none⟩), .pointer (some ⟨m, 0, none⟩), opV 14 a b c s t] w fun e w' => e = .returned (.bool true) ∧ Step w h m S O N ((14 : Int) = 2) w' := by
  unfold opV
  have f1 := (Fr.refl (fun _ => False) w).alloc (.cells #[.int .i64 14, .int .i64 a, .int .i64 b, .int .i64 c, .string s, .string t] 39)
  have L := L0.same f1
  go_enter Try.func20, Try.ntmps20
  go_wp2_with fail
  refine (sameDump L).mono ?_
  rintro e w2 ⟨rfl, f2⟩
  go_wp2_with fail
  refine bodyPost_ret (v := .bool true) (by simp [results, Try.results20, go_sem]) rfl ?_
  exact ⟨rfl, (Step.same (al := False) L f2).pre f1 (fun h => h.elim)⟩
set_option maxRecDepth 100000 in
set_option maxHeartbeats 4000000 in
theorem play15 (L0 : HLaw w h m S M O N) (a b c : Int) (s t : ByteArray) : Calls Try.prog 20 #[.pointer (some ⟨h, 0, none⟩), .pointer (some ⟨m, 0, none⟩), opV 15 a b c s t] w fun e w' => e = .returned (.bool true) ∧ Step w h m S O N ((15 : Int) = 2) w' := by
  unfold opV
  have f1 := (Fr.refl (fun _ => False) w).alloc (.cells #[.int .i64 15, .int .i64 a, .int .i64 b, .int .i64 c, .string s, .string t] 39)
  have L := L0.same f1
  obtain ⟨os, hI⟩ := L.inv
  go_enter Try.func20, Try.ntmps20
  go_wp2_with fail
  refine (checkHF L.hm hI).mono ?_
  rintro e w2 ⟨rfl, _, f2⟩
  go_wp2_with fail
  refine bodyPost_ret (v := .bool true) (by simp [results, Try.results20, go_sem]) rfl ?_
  exact ⟨rfl, (Step.same (al := False) L f2).pre f1 (fun h => h.elim)⟩
set_option maxRecDepth 100000 in
set_option maxHeartbeats 4000000 in
theorem play16 (L0 : HLaw w h m S M O N) (a b c : Int) (s t : ByteArray) : Calls Try.prog 20 #[.pointer (some ⟨h, 0, none⟩), .pointer (some ⟨m, 0, none⟩), opV 16 a b c s t] w fun e w' => e = .returned (.bool true) ∧ Step w h m S O N ((16 : Int) = 2) w' := by
  unfold opV
  have f1 := (Fr.refl (fun _ => False) w).alloc (.cells #[.int .i64 16, .int .i64 a, .int .i64 b, .int .i64 c, .string s, .string t] 39)
  have L := L0.same f1
  go_enter Try.func20, Try.ntmps20
  go_wp2_with fail
  refine (within L).mono ?_
  rintro e w2 ⟨rfl, f2⟩
  go_wp2_with fail
  refine bodyPost_ret (v := .bool true) (by simp [results, Try.results20, go_sem]) rfl ?_
  exact ⟨rfl, (Step.same (al := False) L f2).pre f1 (fun h => h.elim)⟩
set_option maxRecDepth 100000 in
set_option maxHeartbeats 4000000 in
theorem play0 (L0 : HLaw w h m S M O N) (kind : Int) (h1 : kind ≠ 1) (h2 : kind ≠ 2) (h3 : kind ≠ 3) (h4 : kind ≠ 4) (h5 : kind ≠ 5) (h6 : kind ≠ 6) (h7 : kind ≠ 7) (h8 : kind ≠ 8) (h9 : kind ≠ 9) (h10 : kind ≠ 10) (h11 : kind ≠ 11) (h12 : kind ≠ 12) (h13 : kind ≠ 13) (h14 : kind ≠ 14) (h15 : kind ≠ 15) (h16 : kind ≠ 16) (a b c : Int) (s t : ByteArray) : Calls Try.prog 20 #[.pointer (some ⟨h, 0, none⟩), .pointer (some ⟨m, 0, none⟩), opV kind a b c s t] w fun e w' => e = .returned (.bool true) ∧ Step w h m S O N (kind = 2) w' := by
  unfold opV
  have f1 := (Fr.refl (fun _ => False) w).alloc (.cells #[.int .i64 kind, .int .i64 a, .int .i64 b, .int .i64 c, .string s, .string t] 39)
  have L := L0.same f1
  have n1 : (kind == 1) = false := by simpa using h1
  have n2 : (kind == 2) = false := by simpa using h2
  have n3 : (kind == 3) = false := by simpa using h3
  have n4 : (kind == 4) = false := by simpa using h4
  have n5 : (kind == 5) = false := by simpa using h5
  have n6 : (kind == 6) = false := by simpa using h6
  have n7 : (kind == 7) = false := by simpa using h7
  have n8 : (kind == 8) = false := by simpa using h8
  have n9 : (kind == 9) = false := by simpa using h9
  have n10 : (kind == 10) = false := by simpa using h10
  have n11 : (kind == 11) = false := by simpa using h11
  have n12 : (kind == 12) = false := by simpa using h12
  have n13 : (kind == 13) = false := by simpa using h13
  have n14 : (kind == 14) = false := by simpa using h14
  have n15 : (kind == 15) = false := by simpa using h15
  have n16 : (kind == 16) = false := by simpa using h16
  clear h1 h2 h3 h4 h5 h6 h7 h8 h9 h10 h11 h12 h13 h14 h15 h16
  go_enter Try.func20, Try.ntmps20
  go_wp2_with fail
  refine bodyPost_ret (v := .bool true) (by simp [results, Try.results20, go_sem]) rfl ?_
  exact ⟨rfl, (Step.same (al := False) L (Fr.refl _ _)).pre f1 (fun h => h.elim)⟩
theorem playF (L0 : HLaw w h m S M O N) (hN : N ≤ 1000000000000000000) (kind a b c : Int) (s t : ByteArray) : Calls Try.prog 20 #[.pointer (some ⟨h, 0, none⟩), .pointer (some ⟨m, 0, none⟩), opV kind a b c s t] w fun e w' => e = .returned (.bool true) ∧ Step w h m S O N (kind = 2) w' := by
  by_cases h1 : kind = 1
  · subst h1; exact play1 L0 a b c s t
  by_cases h2 : kind = 2
  · subst h2; exact play2 L0 hN a b c s t
  by_cases h3 : kind = 3
  · subst h3; exact play3 L0 a b c s t
  by_cases h4 : kind = 4
  · subst h4; exact play4 L0 a b c s t
  by_cases h5 : kind = 5
  · subst h5; exact play5 L0 a b c s t
  by_cases h6 : kind = 6
  · subst h6; exact play6 L0 a b c s t
  by_cases h7 : kind = 7
  · subst h7; exact play7 L0 a b c s t
  by_cases h8 : kind = 8
  · subst h8; exact play8 L0 a b c s t
  by_cases h9 : kind = 9
  · subst h9; exact play9 L0 a b c s t
  by_cases h10 : kind = 10
  · subst h10; exact play10 L0 a b c s t
  by_cases h11 : kind = 11
  · subst h11; exact play11 L0 a b c s t
  by_cases h12 : kind = 12
  · subst h12; exact play12 L0 a b c s t
  by_cases h13 : kind = 13
  · subst h13; exact play13 L0 a b c s t
  by_cases h14 : kind = 14
  · subst h14; exact play14 L0 a b c s t
  by_cases h15 : kind = 15
  · subst h15; exact play15 L0 a b c s t
  by_cases h16 : kind = 16
  · subst h16; exact play16 L0 a b c s t
  exact play0 L0 kind h1 h2 h3 h4 h5 h6 h7 h8 h9 h10 h11 h12 h13 h14 h15 h16 a b c s t
end
end Go.Proofs.Qxb6500278a
