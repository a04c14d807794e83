import Derived.Test.Qxb6500284aWLaw11
namespace Go.Proofs.Qxb6500284a
open Go Go.RowKit

theorem sameSearch_any (hP : Plain) {w : World} {base x m d : Nat} {s : PS} {D : DD} {p : List In} {N : Nat} (hL : LawInv w base x m d s D p N) (hN : N < 4999999999999) (from_ : Int) (b : Bool) :
    Calls Try.prog 16 #[.pointer (some ⟨x, 0, none⟩), .pointer (some ⟨m, 0, none⟩), .pointer (some ⟨d, 0, none⟩), .int .i64 from_, .bool b] w fun e w' =>
      e = .returned (.bool true) ∧ (∃ s' D', LawInv w' base x m d s' D' p (N + 1)) ∧ Fr (fun b => x ≤ b) w w' := by
  cases b
  · exact sameSearch_fresh hP hL hN from_
  · exact sameSearch_buf hP hL hN from_

def opV (kind A B C : Int) (S T : ByteArray) : Value := .agg #[.int .i64 kind, .int .i64 A, .int .i64 B, .int .i64 C, .string S, .string T]
def PlayPost (base x m d N : Nat) (w : World) : Ending → World → Prop := fun e w' =>
  e = .returned (.bool true) ∧ (∃ s' D' p', LawInv w' base x m d s' D' p' (N + 1)) ∧ Fr (fun b => x ≤ b) w w'

set_option maxRecDepth 100000 in
set_option maxHeartbeats 4000000 in
theorem play_go (hP : Plain) {w : World} {base x m d : Nat} {s : PS} {D : DD} {p : List In} {N : Nat} (hL : LawInv w base x m d s D p N) (hN : N < 4999999999999) (A B C : Int) (S T : ByteArray) :
    Calls Try.prog 11 #[.pointer (some ⟨x, 0, none⟩), .pointer (some ⟨m, 0, none⟩), .pointer (some ⟨d, 0, none⟩), opV 3 A B C S T] w (PlayPost base x m d N w) := by
  unfold opV PlayPost
  have hL1 := hL.frame ((Fr.refl (fun _ => False) w).alloc (.cells #[.int .i64 3, .int .i64 A, .int .i64 B, .int .i64 C, .string S, .string T] 42))
  have f1 := (Fr.refl (fun _ => False) w).alloc (.cells #[.int .i64 3, .int .i64 A, .int .i64 B, .int .i64 C, .string S, .string T] 42)
  go_enter Try.func11, Try.ntmps11
  go_wp2_with fail
  refine (sameSearch_any hP hL1 hN A _).mono ?_
  rintro e w2 ⟨rfl, ⟨s', D', hL2⟩, f2⟩
  go_wp2_with fail
  go_ret
  exact ⟨rfl, ⟨s', D', p, hL2⟩, (f1.mono (S' := fun b => x ≤ b) (fun _ _ h => h.elim)).trans f2 (fun _ _ h => h)⟩

set_option maxRecDepth 100000 in
set_option maxHeartbeats 4000000 in
theorem play_check {w : World} {base x m d : Nat} {s : PS} {D : DD} {p : List In} {N : Nat} (hL : LawInv w base x m d s D p N) (A B C : Int) (S T : ByteArray) :
    Calls Try.prog 11 #[.pointer (some ⟨x, 0, none⟩), .pointer (some ⟨m, 0, none⟩), .pointer (some ⟨d, 0, none⟩), opV 4 A B C S T] w (PlayPost base x m d N w) := by
  unfold opV PlayPost
  have f1 := (Fr.refl (fun _ => False) w).alloc (.cells #[.int .i64 4, .int .i64 A, .int .i64 B, .int .i64 C, .string S, .string T] 42)
  have hL1 := hL.frame f1
  go_enter Try.func11, Try.ntmps11
  go_wp2_with fail
  refine (check_any hL1.rep hL1.ci).mono ?_
  rintro e w2 ⟨rfl, rfl⟩
  go_wp2_with fail
  go_ret
  exact ⟨rfl, ⟨s, D, p, hL1.more (by omega)⟩, f1.mono (fun _ _ h => h.elim)⟩

set_option maxRecDepth 100000 in
set_option maxHeartbeats 4000000 in
theorem play_steps {w : World} {base x m d : Nat} {s : PS} {D : DD} {p : List In} {N : Nat} (hL : LawInv w base x m d s D p N) (A B C : Int) (S T : ByteArray) :
    Calls Try.prog 11 #[.pointer (some ⟨x, 0, none⟩), .pointer (some ⟨m, 0, none⟩), .pointer (some ⟨d, 0, none⟩), opV 5 A B C S T] w (PlayPost base x m d N w) := by
  unfold opV PlayPost
  have f1 := (Fr.refl (fun _ => False) w).alloc (.cells #[.int .i64 5, .int .i64 A, .int .i64 B, .int .i64 C, .string S, .string T] 42)
  have hL1 := hL.frame f1
  go_enter Try.func11, Try.ntmps11
  go_wp2_with fail
  refine (linear_any hL1.rep hL1.db hL1.ci.st hL1.st).mono ?_
  rintro e w2 ⟨rfl, rfl⟩
  go_wp2_with fail
  go_ret
  exact ⟨rfl, ⟨s, D, p, hL1.more (by omega)⟩, f1.mono (fun _ _ h => h.elim)⟩

set_option maxRecDepth 100000 in
set_option maxHeartbeats 4000000 in
theorem play_fresh {w : World} {base x m d : Nat} {s : PS} {D : DD} {p : List In} {N : Nat} (hL : LawInv w base x m d s D p N) (A B C : Int) (S T : ByteArray) :
    Calls Try.prog 11 #[.pointer (some ⟨x, 0, none⟩), .pointer (some ⟨m, 0, none⟩), .pointer (some ⟨d, 0, none⟩), opV 9 A B C S T] w (PlayPost base x m d N w) := by
  unfold opV PlayPost
  have f1 := (Fr.refl (fun _ => False) w).alloc (.cells #[.int .i64 9, .int .i64 A, .int .i64 B, .int .i64 C, .string S, .string T] 42)
  have hL1 := hL.frame f1
  have c0 : w.cell? ⟨d, 0, none⟩ = some D.cv := hL.db.cell (by omega)
  have c1 : w.cell? ⟨d, 1, none⟩ = some (.string D.sub) := hL.db.cell (by omega)
  have z0 := hL.db.frozen
  have hdl := hL.db.lt
  go_enter Try.func11, Try.ntmps11
  go_wp2_with fail
  go_ret
  have hk := hL.desk (D' := { D with cv := .slice none 0 0, sub := ⟨#[]⟩ }) (p' := []) ((((Fr.refl _ w).setC d 0 (.slice none 0 0) (fun _ => .inl rfl)).setC d 1 (.string ⟨#[]⟩) (fun _ => .inl rfl)).alloc (.cells #[.int .i64 9, .int .i64 A, .int .i64 B, .int .i64 C, .string S, .string T] 42))
    ((((hL.db.set 0 _).congr (dcell_cv D _)).set 1 _).congr (dcell_sub _ _) |>.alloc _) rfl rfl rfl rfl (by show (0 : Nat) ≤ 257; omega) (.inl ⟨rfl, rfl⟩) (by simp) (fun b n c e => by cases e)
  exact ⟨rfl, ⟨s, _, [], hk.1.more (by omega)⟩, hk.2⟩

set_option maxRecDepth 100000 in
set_option maxHeartbeats 4000000 in
theorem play_other {w : World} {base x m d : Nat} {s : PS} {D : DD} {p : List In} {N : Nat} (hL : LawInv w base x m d s D p N) (kind A B C : Int) (S T : ByteArray)
    (h1 : kind ≠ 1) (h2 : kind ≠ 2) (h3 : kind ≠ 3) (h4 : kind ≠ 4) (h5 : kind ≠ 5) (h9 : kind ≠ 9) :
    Calls Try.prog 11 #[.pointer (some ⟨x, 0, none⟩), .pointer (some ⟨m, 0, none⟩), .pointer (some ⟨d, 0, none⟩), opV kind A B C S T] w (PlayPost base x m d N w) := by
  unfold opV PlayPost
  have f1 := (Fr.refl (fun _ => False) w).alloc (.cells #[.int .i64 kind, .int .i64 A, .int .i64 B, .int .i64 C, .string S, .string T] 42)
  have hL1 := hL.frame f1
  go_enter Try.func11, Try.ntmps11
  go_wp2_with fail
  go_ret
  exact ⟨rfl, ⟨s, D, p, hL1.more (by omega)⟩, f1.mono (fun _ _ h => h.elim)⟩

set_option maxRecDepth 100000 in
set_option maxHeartbeats 4000000 in
theorem play_sub {w : World} {base x m d : Nat} {s : PS} {D : DD} {p : List In} {N : Nat} (hL : LawInv w base x m d s D p N) (A B C : Int) (S T : ByteArray) :
    Calls Try.prog 11 #[.pointer (some ⟨x, 0, none⟩), .pointer (some ⟨m, 0, none⟩), .pointer (some ⟨d, 0, none⟩), opV 2 A B C S T] w (PlayPost base x m d N w) := by
  unfold opV PlayPost
  have f1 := (Fr.refl (fun _ => False) w).alloc (.cells #[.int .i64 2, .int .i64 A, .int .i64 B, .int .i64 C, .string S, .string T] 42)
  have hL1 := hL.frame f1
  have c1 : w.cell? ⟨d, 1, none⟩ = some (.string D.sub) := hL.db.cell (by omega)
  have z0 := hL.db.frozen
  have hdl := hL.db.lt
  go_enter Try.func11, Try.ntmps11
  go_wp2_with fail
  refine wp_region_text (by kernel_rfl) (by kernel_rfl) ?_
  go_wp2_with fail
  refine (lengthen_any D.sub S hL.sub _).mono ?_
  rintro e w2 ⟨⟨t, rfl, ht⟩, rfl⟩
  go_wp2_with fail
  refine ⟨by kernel_rfl, ?_⟩
  go_wp2_with fail
  go_ret
  have hk := hL.desk (D' := { D with sub := t }) (p' := p) ((((Fr.refl _ w).setC d 1 (.string t) (fun _ => .inl rfl)).alloc (.cells #[.int .i64 2, .int .i64 A, .int .i64 B, .int .i64 C, .string S, .string T] 42)).drew)
    ((((hL.db.set 1 _).congr (dcell_sub D t)).alloc _).drew) rfl rfl rfl rfl ht (hL.code.frame (S := fun b => b = d) ((((Fr.refl (fun b => b = d) w).setC d 1 (.string t) (fun _ => rfl)).alloc _).drew) (fun b n c e h => by have := hL.cb b n c e; have := hL.lay; omega)) hL.len (fun b n c e => .inr ⟨n, c, e⟩)
  exact ⟨rfl, ⟨s, _, p, hk.1.more (by omega)⟩, hk.2⟩

set_option maxRecDepth 100000 in
set_option maxHeartbeats 4000000 in
theorem play_inst {w : World} {base x m d : Nat} {s : PS} {D : DD} {p : List In} {N : Nat} (hL : LawInv w base x m d s D p N) (A B C : Int) (S T : ByteArray) :
    Calls Try.prog 11 #[.pointer (some ⟨x, 0, none⟩), .pointer (some ⟨m, 0, none⟩), .pointer (some ⟨d, 0, none⟩), opV 1 A B C S T] w (PlayPost base x m d N w) := by
  unfold opV PlayPost
  have f1 := (Fr.refl (fun _ => False) w).alloc (.cells #[.int .i64 1, .int .i64 A, .int .i64 B, .int .i64 C, .string S, .string T] 42)
  have hL1 := hL.frame f1
  obtain ⟨ca, ccap, hcv, hsl⟩ := hL.code.sl
  have c0 : w.cell? ⟨d, 0, none⟩ = some (.slice ca p.length ccap) := by rw [hL.db.cell (by omega)]; simp [dcell, hcv]
  have z0 := hL.db.frozen
  have hdl := hL.db.lt
  have hlen := hL.len
  have Hcv : Hid _ := hcv
  clear hcv
  by_cases hlt : p.length ≤ 64
  · go_enter Try.func11, Try.ntmps11
    go_wp2_with fail
    refine (instOf_any 1 A B C S T _).mono ?_
    rintro e w2 ⟨⟨g, rfl⟩, f2⟩
    unfold inV
    have hL2 := hL1.frame f2
    have c0 : w2.cell? ⟨d, 0, none⟩ = some (.slice ca p.length ccap) := by rw [hL2.db.cell (by omega)]; simp [dcell, Hcv.out]
    have z2 := hL2.db.frozen
    have hdl2 := hL2.db.lt
    go_wp2_with fail
    refine wp_region_text (by kernel_rfl) (by kernel_rfl) ?_
    have f3 : Fr (fun _ => False) w2 ((w2.alloc (.cells #[.int .i64 A, .int .i64 B, .int .i64 C, .int .u64 (g 0), .int .u64 (g 1), .int .u64 (g 2), .int .u64 (g 3)] 63)).alloc (.cells #[.int .i64 A, .int .i64 B, .int .i64 C, .int .u64 (g 0), .int .u64 (g 1), .int .u64 (g 2), .int .u64 (g 3)] 63)).drew := (((Fr.refl _ _).alloc _).alloc _).drew
    have hL3 := hL2.frame f3
    have hpx : PAt ((w2.alloc (.cells #[.int .i64 A, .int .i64 B, .int .i64 C, .int .u64 (g 0), .int .u64 (g 1), .int .u64 (g 2), .int .u64 (g 3)] 63)).alloc (.cells #[.int .i64 A, .int .i64 B, .int .i64 C, .int .u64 (g 0), .int .u64 (g 1), .int .u64 (g 2), .int .u64 (g 3)] 63)).drew (w2.heap.size + 1) [⟨A, B, C, g 0, g 1, g 2, g 3⟩] := by
      have hbk := (Blk.new (w2.alloc (.cells #[.int .i64 A, .int .i64 B, .int .i64 C, .int .u64 (g 0), .int .u64 (g 1), .int .u64 (g 2), .int .u64 (g 3)] 63)) #[.int .i64 A, .int .i64 B, .int .i64 C, .int .u64 (g 0), .int .u64 (g 1), .int .u64 (g 2), .int .u64 (g 3)] 63 (inCell ⟨A, B, C, g 0, g 1, g 2, g 3⟩) (fun o ho => by
        simp at ho
        rcases (show o = 0 ∨ o = 1 ∨ o = 2 ∨ o = 3 ∨ o = 4 ∨ o = 5 ∨ o = 6 by omega) with rfl | rfl | rfl | rfl | rfl | rfl | rfl <;> rfl)).drew
      intro k hk j hj
      obtain rfl : k = 0 := by simp at hk; omega
      have := hbk.cell (o := j) hj
      simpa using this
    have hcode3 : CodeAt ((w2.alloc (.cells #[.int .i64 A, .int .i64 B, .int .i64 C, .int .u64 (g 0), .int .u64 (g 1), .int .u64 (g 2), .int .u64 (g 3)] 63)).alloc (.cells #[.int .i64 A, .int .i64 B, .int .i64 C, .int .u64 (g 0), .int .u64 (g 1), .int .u64 (g 2), .int .u64 (g 3)] 63)).drew (.slice ca p.length ccap) p := by rw [← Hcv.out]; exact hL3.code
    go_wp2_with (at_builtin; refine wpList_appendCode (by rfl) _ _ (by rfl) (.slice ca p.length ccap) p ⟨A, B, C, g 0, g 1, g 2, g 3⟩ (w2.heap.size + 1) 1 (by rfl) (by rfl) hcode3 hpx hlen ?_; intro v' w4 hc4 hb4 f4; rw [← Hcv.out] at hb4 f4; obtain ⟨va, vcap, rfl, hsl4⟩ := hc4.sl; have hd4 := hL3.db.frame f4 (by rintro ⟨n, c, e⟩; have := hL.cb _ _ _ e; have := hL.lay; omega); have dz4 := hd4.frozen; have d04 : w4.cell? ⟨d, 0, none⟩ = some D.cv := hd4.cell (by omega))
    refine ⟨by kernel_rfl, ?_⟩
    go_wp2_with fail
    go_ret
    simp only [one_append] at hc4 hb4
    have hcb3 : ∀ b, (∃ n c, D.cv = .slice (some ⟨b, 0, none⟩) n c) → b ≠ d := by
      rintro b ⟨n, c, e⟩
      have := hL.cb b n c e
      have := hL.lay
      omega
    have hk := hL3.desk (D' := { D with cv := .slice va (p.length + 1) vcap }) (p' := p ++ [⟨A, B, C, g 0, g 1, g 2, g 3⟩]) ((f4.mono (fun _ _ h => .inr h)).setC d 0 (.slice va (p.length + 1) vcap) (fun _ => .inl rfl))
      ((hd4.set 0 _).congr (dcell_cv D _)) rfl rfl rfl rfl hL.sub
      (hc4.frame (S := fun b => b = d) ((Fr.refl (fun b => b = d) w4).setC d 0 _ (fun _ => rfl)) (fun b n c e => by
        rcases hb4 b n c e with h | h
        · intro h'; have h3 := hL3.db.lt; exact absurd (h' ▸ h) (Nat.not_le.2 h3)
        · exact hcb3 b h))
      (by rw [one_append]; omega) hb4
    exact ⟨rfl, ⟨s, _, _, hk.1.more (by omega)⟩, (((f1.trans f2 (fun _ _ h => h)).trans f3 (fun _ _ h => h)).mono (S' := fun b => x ≤ b) (fun _ _ h => h.elim)).trans hk.2 (fun _ _ h => h)⟩
  · go_enter Try.func11, Try.ntmps11
    go_wp2_with fail
    go_ret
    exact ⟨rfl, ⟨s, D, p, hL1.more (by omega)⟩, f1.mono (fun _ _ h => h.elim)⟩

theorem play_any (hP : Plain) {w : World} {base x m d : Nat} {s : PS} {D : DD} {p : List In} {N : Nat} (hL : LawInv w base x m d s D p N) (hN : N < 4999999999999) (kind A B C : Int) (S T : ByteArray) :
    Calls Try.prog 11 #[.pointer (some ⟨x, 0, none⟩), .pointer (some ⟨m, 0, none⟩), .pointer (some ⟨d, 0, none⟩), opV kind A B C S T] w (PlayPost base x m d N w) := by
  by_cases h1 : kind = 1
  · subst h1; exact play_inst hL A B C S T
  by_cases h2 : kind = 2
  · subst h2; exact play_sub hL A B C S T
  by_cases h3 : kind = 3
  · subst h3; exact play_go hP hL hN A B C S T
  by_cases h4 : kind = 4
  · subst h4; exact play_check hL A B C S T
  by_cases h5 : kind = 5
  · subst h5; exact play_steps hL A B C S T
  by_cases h9 : kind = 9
  · subst h9; exact play_fresh hL A B C S T
  exact play_other hL kind A B C S T h1 h2 h3 h4 h5 h9
end Go.Proofs.Qxb6500284a
