/- The law: Play, the walk. -/
import Derived.Test.Qxb6500287aL5
namespace Go.Proofs.Qxb6500287a
open Go Go.RowKit

set_option maxHeartbeats 400000 in
theorem lengthen_any (reg s : ByteArray) (hr : reg.size ≤ 129) (w : World) : Calls Try.prog 14 #[.string reg, .string s, .int .i64 128] w fun e w' => (∃ t : ByteArray, e = .returned (.string t) ∧ t.size ≤ 129) ∧ w' = w := by
  by_cases h1 : reg.size = 129
  · go_enter Try.func14, Try.ntmps14
    go_wp2
    go_ret
    exact ⟨⟨_, rfl, hr⟩, rfl⟩
  · have hr2 : reg.size < 129 := by omega
    clear hr h1
    by_cases h2 : (129 : Int) - reg.size < s.size
    · go_enter Try.func14, Try.ntmps14
      go_wp2
      go_ret
      refine ⟨⟨_, rfl, ?_⟩, rfl⟩
      simp [ByteArray.size_append, ByteArray.size_extract]
      omega
    · go_enter Try.func14, Try.ntmps14
      go_wp2
      go_ret
      refine ⟨⟨_, rfl, ?_⟩, rfl⟩
      simp [ByteArray.size_append]
      omega
section
variable {w : World} {lo x m d c : Nat} {D : Dk} {ns : List Nd}
def opV (kind A B C : Int) (S T : ByteArray) : Value := .agg #[.int .i64 kind, .int .i64 A, .int .i64 B, .int .i64 C, .string S, .string T]
def PlayPost (lo x m d c : Nat) (w : World) : Ending → World → Prop := fun e w' =>
  e = .returned (.bool true) ∧ (∃ D' ns' c', c' ≤ c + 1 ∧ LawInv w' lo x m d D' ns' c') ∧ Fr (fun b => lo ≤ b) w w'
def patD (D : Dk) (t : ByteArray) : Dk := ⟨t, D.lx, D.lm, D.old, D.n⟩
theorem dkCell_pat (D : Dk) (t : ByteArray) : ∀ o, o < 8 → upd (dkCell D) 0 (.string t) o = dkCell (patD D t) o := by
  intro o ho
  rcases (show o = 0 ∨ o = 1 ∨ o = 2 ∨ o = 3 ∨ o = 4 ∨ o = 5 ∨ o = 6 ∨ o = 7 by omega) with rfl | rfl | rfl | rfl | rfl | rfl | rfl | rfl <;> simp [dkCell, upd, patD]
theorem LawInv.setPat (h : LawInv w lo x m d D ns c) (t : ByteArray) (ht : t.size ≤ 129) : LawInv (w.setCell ⟨d, 0, none⟩ (.string t)) lo x m d (patD D t) ns c := by
  have k := (Fr.refl (fun b => b = d) w).setC d 0 (.string t) (fun _ => rfl)
  exact ⟨h.real.frame k h.xd, h.model.frame k h.md, (h.desk.set 0 _).congr (dkCell_pat D t), ht, h.lx.frame k (fun b hb => (h.bx b hb).2.2.1), h.lm.frame k (fun b hb => (h.bm b hb).2.2), h.len, h.old.frame k (fun i hi b hb => (h.bo i hi b hb).2.2), h.xm, h.xd, h.md, h.lox, h.lom, h.lod, h.bx, h.bm, h.bo, h.n⟩
set_option maxRecDepth 100000 in
set_option maxHeartbeats 4000000 in
theorem play_check (h : LawInv w lo x m d D ns c) (A B C : Int) (S T : ByteArray) : Calls Try.prog 13 #[.pointer (some ⟨x, 0, none⟩), .pointer (some ⟨m, 0, none⟩), .pointer (some ⟨d, 0, none⟩), opV 4 A B C S T] w (PlayPost lo x m d c w) := by
  unfold opV PlayPost
  have f1 := (Fr.refl (fun _ => False) w).alloc (.cells #[.int .i64 4, .int .i64 A, .int .i64 B, .int .i64 C, .string S, .string T] 42)
  have h1 := h.frame f1
  go_enter Try.func13, Try.ntmps13
  go_wp2_with fail
  refine (checkR_any h1.real).mono ?_
  rintro e w2 ⟨rfl, f2⟩
  go_wp2_with fail
  go_ret
  exact ⟨rfl, ⟨_, _, _, Nat.le_succ _, h1.frame f2⟩, (f1.trans f2 (fun _ _ h => h)).mono (fun _ _ h => h.elim)⟩
set_option maxRecDepth 100000 in
set_option maxHeartbeats 4000000 in
theorem play_other (h : LawInv w lo x m d D ns c) (kind A B C : Int) (S T : ByteArray) (h1 : kind ≠ 1) (h3 : kind ≠ 3) (h4 : kind ≠ 4) (h9 : kind ≠ 9) : Calls Try.prog 13 #[.pointer (some ⟨x, 0, none⟩), .pointer (some ⟨m, 0, none⟩), .pointer (some ⟨d, 0, none⟩), opV kind A B C S T] w (PlayPost lo x m d c w) := by
  unfold opV PlayPost
  have f1 := (Fr.refl (fun _ => False) w).alloc (.cells #[.int .i64 kind, .int .i64 A, .int .i64 B, .int .i64 C, .string S, .string T] 42)
  have hL1 := h.frame f1
  have t1 : (kind == 1) = false := by simpa using h1
  have t3 : (kind == 3) = false := by simpa using h3
  have t4 : (kind == 4) = false := by simpa using h4
  have t9 : (kind == 9) = false := by simpa using h9
  clear h1 h3 h4 h9
  go_enter Try.func13, Try.ntmps13
  go_wp2_with fail
  go_ret
  exact ⟨rfl, ⟨_, _, _, Nat.le_succ _, hL1⟩, f1.mono (fun _ _ h => h.elim)⟩
set_option maxRecDepth 100000 in
set_option maxHeartbeats 4000000 in
theorem play_fresh (h : LawInv w lo x m d D ns c) (A B C : Int) (S T : ByteArray) : Calls Try.prog 13 #[.pointer (some ⟨x, 0, none⟩), .pointer (some ⟨m, 0, none⟩), .pointer (some ⟨d, 0, none⟩), opV 9 A B C S T] w (PlayPost lo x m d c w) := by
  unfold opV PlayPost
  have c0 : w.cell? ⟨d, 0, none⟩ = some (.string D.pat) := h.desk.cell (by omega)
  have z0 := h.desk.frozen
  have hdl := h.desk.lt
  have hlo := h.lod
  have h2 := (h.setPat ⟨#[]⟩ (by show (0 : Nat) ≤ 129; omega)).frame ((Fr.refl (fun _ => False) _).alloc (.cells #[.int .i64 9, .int .i64 A, .int .i64 B, .int .i64 C, .string S, .string T] 42))
  have k2 := ((Fr.refl (fun b => lo ≤ b) w).setC d 0 (.string ⟨#[]⟩) (fun _ => hlo)).alloc (.cells #[.int .i64 9, .int .i64 A, .int .i64 B, .int .i64 C, .string S, .string T] 42)
  go_enter Try.func13, Try.ntmps13
  go_wp2_with fail
  go_ret
  exact ⟨rfl, ⟨_, _, _, Nat.le_succ _, h2⟩, k2⟩
set_option maxRecDepth 100000 in
set_option maxHeartbeats 4000000 in
theorem play_text (h : LawInv w lo x m d D ns c) (A B C : Int) (S T : ByteArray) : Calls Try.prog 13 #[.pointer (some ⟨x, 0, none⟩), .pointer (some ⟨m, 0, none⟩), .pointer (some ⟨d, 0, none⟩), opV 1 A B C S T] w (PlayPost lo x m d c w) := by
  unfold opV PlayPost
  have c0 : w.cell? ⟨d, 0, none⟩ = some (.string D.pat) := h.desk.cell (by omega)
  have z0 := h.desk.frozen
  have hdl := h.desk.lt
  have hlo := h.lod
  go_enter Try.func13, Try.ntmps13
  go_wp2_with fail
  refine wp_region_text (by kernel_rfl) (by kernel_rfl) ?_
  go_wp2_with fail
  refine (lengthen_any D.pat S h.pat _).mono ?_
  rintro e w2 ⟨⟨t, rfl, ht⟩, rfl⟩
  go_wp2_with fail
  refine ⟨by kernel_rfl, ?_⟩
  go_wp2_with fail
  go_ret
  have h2 := h.setPat t ht
  refine ⟨rfl, ⟨_, _, _, Nat.le_succ _, (h2.frame (((Fr.refl (fun _ => False) _).alloc (.cells #[.int .i64 1, .int .i64 A, .int .i64 B, .int .i64 C, .string S, .string T] 42)).drew))⟩, ?_⟩
  exact ((((Fr.refl (fun b => lo ≤ b) w).setC d 0 _ (fun _ => hlo)).alloc _).drew)
set_option maxRecDepth 100000 in
set_option maxHeartbeats 4000000 in
theorem play_go (h : LawInv w lo x m d D ns c) (hc : c ≤ 9999999999999) (A B C : Int) (S T : ByteArray) : Calls Try.prog 13 #[.pointer (some ⟨x, 0, none⟩), .pointer (some ⟨m, 0, none⟩), .pointer (some ⟨d, 0, none⟩), opV 3 A B C S T] w (PlayPost lo x m d c w) := by
  unfold opV PlayPost
  have c0 : w.cell? ⟨d, 0, none⟩ = some (.string D.pat) := h.desk.cell (by omega)
  have z0 := h.desk.frozen
  have hdl := h.desk.lt
  have f1 := ((Fr.refl (fun _ => False) w).alloc (.cells #[.int .i64 3, .int .i64 A, .int .i64 B, .int .i64 C, .string S, .string T] 42)).drew
  have H2 : Hid _ := h.frame f1
  go_enter Try.func13, Try.ntmps13
  go_wp2_with fail
  refine wp_region_text (by kernel_rfl) (by kernel_rfl) ?_
  go_wp2_with fail
  refine (lengthen_any D.pat S h.pat _).mono ?_
  rintro e w2 ⟨⟨t, rfl, ht⟩, rfl⟩
  go_wp2_with fail
  refine ⟨by kernel_rfl, ?_⟩
  go_wp2_with fail
  refine (sameParse_any H2.out hc t).mono ?_
  rintro e w3 ⟨rfl, ⟨D', ns', _, hL⟩, f3⟩
  go_wp2_with fail
  go_ret
  exact ⟨rfl, ⟨_, _, _, Nat.le_refl _, hL⟩, (f1.mono (fun _ _ h => h.elim)).trans f3 (fun _ _ h => h)⟩
theorem play_any (h : LawInv w lo x m d D ns c) (hc : c ≤ 9999999999999) (kind A B C : Int) (S T : ByteArray) : Calls Try.prog 13 #[.pointer (some ⟨x, 0, none⟩), .pointer (some ⟨m, 0, none⟩), .pointer (some ⟨d, 0, none⟩), opV kind A B C S T] w (PlayPost lo x m d c w) := by
  by_cases h1 : kind = 1
  · subst h1; exact play_text h A B C S T
  · by_cases h3 : kind = 3
    · subst h3; exact play_go h hc A B C S T
    · by_cases h4 : kind = 4
      · subst h4; exact play_check h A B C S T
      · by_cases h9 : kind = 9
        · subst h9; exact play_fresh h A B C S T
        · exact play_other h kind A B C S T h1 h3 h4 h9
end
/-- The script lies in memory. -/
def ScrAt (w : World) (a : Option Addr) (n : Nat) : Prop := n = 0 ∨ ∃ b off, a = some ⟨b, off, none⟩ ∧ b < w.heap.size ∧ ∀ i, i < n → ∃ kind A B C S T,
  w.cell? ⟨b, off + i * 6, none⟩ = some (.int .i64 kind) ∧ w.cell? ⟨b, off + i * 6 + 1, none⟩ = some (.int .i64 A) ∧ w.cell? ⟨b, off + i * 6 + 2, none⟩ = some (.int .i64 B) ∧
  w.cell? ⟨b, off + i * 6 + 3, none⟩ = some (.int .i64 C) ∧ w.cell? ⟨b, off + i * 6 + 4, none⟩ = some (.string S) ∧ w.cell? ⟨b, off + i * 6 + 5, none⟩ = some (.string T)
def desk0 : Dk := ⟨⟨#[]⟩, .slice none 0 0, .slice none 0 0, fun _ => .slice none 0 0, 0⟩
def deskO : Obj := .cells #[.string ⟨#[]⟩, .slice none 0 0, .slice none 0 0, .slice none 0 0, .slice none 0 0, .slice none 0 0, .slice none 0 0, .int .i64 0] 38
theorem law0 {w1 w3 : World} {m : Nat} (hx : RAny w3 w1.heap.size ⟨#[]⟩) (hm : Blk w3 m 1 (fun _ => .int .i64 0)) (h1 : w1.heap.size < m) (h2 : m < w3.heap.size) : LawInv (w3.alloc deskO) w1.heap.size w1.heap.size m w3.heap.size desk0 [] 0 := by
  have k := (Fr.refl (fun _ => False) w3).alloc deskO
  refine ⟨hx.frame k (fun h => h), hm.frame k (fun h => h), ?_, by show (0 : Nat) ≤ 129; omega, .inl ⟨rfl, rfl⟩, .inl ⟨rfl, rfl⟩, by simp, fun i hi => ⟨0, by omega, .inl ⟨rfl, rfl⟩⟩, by omega, by omega, by omega, by omega, by omega, by omega, fun b hb => absurd hb (noBlk b), fun b hb => absurd hb (noBlk b), fun i hi b hb => absurd hb (noBlk b), Nat.le_refl _⟩
  refine Blk.new w3 _ _ _ fun o ho => ?_
  rcases (show o = 0 ∨ o = 1 ∨ o = 2 ∨ o = 3 ∨ o = 4 ∨ o = 5 ∨ o = 6 ∨ o = 7 by simp at ho; omega) with rfl | rfl | rfl | rfl | rfl | rfl | rfl | rfl <;> rfl
set_option maxRecDepth 100000 in
set_option maxHeartbeats 4000000 in
theorem walk_loud {w : World} {a : Option Addr} {n cap : Nat} (hs : ScrAt w a n) :
    Calls Try.prog 7 #[.slice a n cap, .bool false] w fun e w' => (∃ k, e = .returned (.tuple #[.int .i64 (-1), .int .i64 k])) ∧ Fr (fun _ => False) w w' := by
  go_enter Try.func7, Try.ntmps7
  go_wp2_with fail
  refine (ground_any _).mono ?_
  rintro e w1 ⟨rfl, f1⟩
  go_wp2_with fail
  refine (newR_any _).mono ?_
  rintro e w2 ⟨rfl, hrep, f2⟩
  go_wp2_with fail
  refine (newM_any _).mono ?_
  rintro e w3 ⟨rfl, hmod, f3⟩
  have fw3 : Fr (fun _ => False) w w3 := (f1.trans f2 (fun _ _ h => h)).trans f3 (fun _ _ h => h)
  have hs1 := f1.size
  have hL0 := law0 (hrep.frame f3 (fun h => h)) hmod hrep.lt hmod.lt
  have fw5 : Fr (fun _ => False) w (w3.alloc deskO) := fw3.alloc _
  unfold deskO at hL0 fw5
  go_wp2_with fail
  refine (checkR_any hL0.real).mono ?_
  rintro e w5 ⟨rfl, f5⟩
  have hL5 := hL0.frame f5
  have fw6 : Fr (fun _ => False) w w5 := fw5.trans f5 (fun _ _ h => h)
  go_wp2_with fail
  go_loopg [9] n (fun g kv wr => ∃ k : Nat, kv = .int .i64 k ∧ k + g = n ∧ k ≤ 4398046511104 ∧ (∃ D ns c, c ≤ k ∧ LawInv wr w1.heap.size w1.heap.size w2.heap.size w3.heap.size D ns c) ∧ Fr (fun _ => False) w wr)
  case atStart => exact ⟨0, rfl, by omega, by omega, ⟨_, _, 0, Nat.le_refl _, hL5⟩, fw6⟩
  case round =>
    obtain ⟨k, rfl, hkg, hk42, ⟨D, ns, c, hck, hL⟩, hfr⟩ := hrel
    have hkg' : k + gk = n := hkg
    clear hkg
    have Hk42 : Hid _ := hk42
    clear hk42
    have hkb : (k : Int) < 140737488355328 := by have := Hk42.out; omega
    by_cases hlt : k < n
    · by_cases hlt2 : (k : Int) < 4398046511104
      · rcases hs with h0 | ⟨b, off, rfl, hb, hcells⟩
        · exact absurd hlt (by omega)
        obtain ⟨kind, A, B, C, S, T, c0, c1, c2, c3, c4, c5⟩ := hcells k hlt
        rw [← hfr.cell (p := ⟨b, off + k * 6, none⟩) hb (by simp)] at c0
        rw [← hfr.cell (p := ⟨b, off + k * 6 + 1, none⟩) hb (by simp)] at c1
        rw [← hfr.cell (p := ⟨b, off + k * 6 + 2, none⟩) hb (by simp)] at c2
        rw [← hfr.cell (p := ⟨b, off + k * 6 + 3, none⟩) hb (by simp)] at c3
        rw [← hfr.cell (p := ⟨b, off + k * 6 + 4, none⟩) hb (by simp)] at c4
        rw [← hfr.cell (p := ⟨b, off + k * 6 + 5, none⟩) hb (by simp)] at c5
        clear hcells
        have Hck : Hid _ := hck
        clear hck
        go_wp2_with fail
        refine (play_any hL (by have := Hck.out; have := Hk42.out; omega) kind A B C S T).mono ?_
        rintro e w6 ⟨rfl, ⟨D', ns', c', hc', hL'⟩, f6⟩
        go_wp2_with fail
        refine (checkR_any hL'.real).mono ?_
        rintro e w7 ⟨rfl, f7⟩
        go_wp2_with fail
        go_roundg (gk - 1)
        case measure => omega
        case rel => exact ⟨k + 1, by simp, by omega, by omega, ⟨D', ns', c', by have := Hck.out; omega, hL'.frame f7⟩, (hfr.trans f6 (fun i hi h => by omega)).trans f7 (fun _ _ h => h)⟩
      · have hk3 : (4398046511104 : Int) ≤ k := Int.not_lt.1 hlt2
        have hn3 : (4398046511104 : Int) ≤ n := Int.le_trans hk3 (by omega)
        have Hlt : Hid _ := hlt
        have Hkg : Hid _ := hkg'
        have hlt' : (k : Int) < n := by omega
        have q1 : decide ((k : Int) < 4398046511104) = false := decide_eq_false (Int.not_lt.2 hk3)
        have q2 : decide ((n : Int) < 4398046511104) = false := decide_eq_false (Int.not_lt.2 hn3)
        clear hlt2 hlt hkg' hk3 hn3
        go_wp2_with fail
        all_goals exact bodyPost_ret (v := .tuple #[.int .i64 (-1), .int .i64 4398046511104]) (by simp [results, Try.results7, go_sem]) rfl ⟨⟨_, rfl⟩, hfr⟩
    · have hkn : k = n := by omega
      by_cases hn2 : (n : Int) < 4398046511104
      · go_wp2_with fail
        exact bodyPost_ret (v := .tuple #[.int .i64 (-1), .int .i64 n]) (by simp [results, Try.results7, go_sem]) rfl ⟨⟨_, rfl⟩, hfr⟩
      · go_wp2_with fail
        exact bodyPost_ret (v := .tuple #[.int .i64 (-1), .int .i64 4398046511104]) (by simp [results, Try.results7, go_sem]) rfl ⟨⟨_, rfl⟩, hfr⟩
set_option maxRecDepth 100000 in
set_option maxHeartbeats 4000000 in
theorem walk_quiet {w : World} {a : Option Addr} {n cap : Nat} (hs : ScrAt w a n) :
    Calls Try.prog 7 #[.slice a n cap, .bool true] w fun e w' => (∃ k, e = .returned (.tuple #[.int .i64 (-1), .int .i64 k])) ∧ Fr (fun _ => False) w w' := by
  go_enter Try.func7, Try.ntmps7
  go_wp2_with fail
  refine (ground_any _).mono ?_
  rintro e w1 ⟨rfl, f1⟩
  go_wp2_with fail
  refine (newR_any _).mono ?_
  rintro e w2 ⟨rfl, hrep, f2⟩
  go_wp2_with fail
  refine (newM_any _).mono ?_
  rintro e w3 ⟨rfl, hmod, f3⟩
  have fw3 : Fr (fun _ => False) w w3 := (f1.trans f2 (fun _ _ h => h)).trans f3 (fun _ _ h => h)
  have hs1 := f1.size
  have hL0 := law0 (hrep.frame f3 (fun h => h)) hmod hrep.lt hmod.lt
  have fw5 : Fr (fun _ => False) w (w3.alloc deskO) := fw3.alloc _
  unfold deskO at hL0 fw5
  go_wp2_with fail
  go_loopg [9] n (fun g kv wr => ∃ k : Nat, kv = .int .i64 k ∧ k + g = n ∧ k ≤ 4398046511104 ∧ (∃ D ns c, c ≤ k ∧ LawInv wr w1.heap.size w1.heap.size w2.heap.size w3.heap.size D ns c) ∧ Fr (fun _ => False) w wr)
  case atStart => exact ⟨0, rfl, by omega, by omega, ⟨_, _, 0, Nat.le_refl _, hL0⟩, fw5⟩
  case round =>
    obtain ⟨k, rfl, hkg, hk42, ⟨D, ns, c, hck, hL⟩, hfr⟩ := hrel
    have hkg' : k + gk = n := hkg
    clear hkg
    have Hk42 : Hid _ := hk42
    clear hk42
    have hkb : (k : Int) < 140737488355328 := by have := Hk42.out; omega
    by_cases hlt : k < n
    · by_cases hlt2 : (k : Int) < 4398046511104
      · rcases hs with h0 | ⟨b, off, rfl, hb, hcells⟩
        · exact absurd hlt (by omega)
        obtain ⟨kind, A, B, C, S, T, c0, c1, c2, c3, c4, c5⟩ := hcells k hlt
        rw [← hfr.cell (p := ⟨b, off + k * 6, none⟩) hb (by simp)] at c0
        rw [← hfr.cell (p := ⟨b, off + k * 6 + 1, none⟩) hb (by simp)] at c1
        rw [← hfr.cell (p := ⟨b, off + k * 6 + 2, none⟩) hb (by simp)] at c2
        rw [← hfr.cell (p := ⟨b, off + k * 6 + 3, none⟩) hb (by simp)] at c3
        rw [← hfr.cell (p := ⟨b, off + k * 6 + 4, none⟩) hb (by simp)] at c4
        rw [← hfr.cell (p := ⟨b, off + k * 6 + 5, none⟩) hb (by simp)] at c5
        clear hcells
        have Hck : Hid _ := hck
        clear hck
        go_wp2_with fail
        refine (play_any hL (by have := Hck.out; have := Hk42.out; omega) kind A B C S T).mono ?_
        rintro e w6 ⟨rfl, ⟨D', ns', c', hc', hL'⟩, f6⟩
        go_wp2_with fail
        go_roundg (gk - 1)
        case measure => omega
        case rel => exact ⟨k + 1, by simp, by omega, by omega, ⟨D', ns', c', by have := Hck.out; omega, hL'⟩, hfr.trans f6 (fun i hi h => by omega)⟩
      · have hk3 : (4398046511104 : Int) ≤ k := Int.not_lt.1 hlt2
        have hn3 : (4398046511104 : Int) ≤ n := Int.le_trans hk3 (by omega)
        have Hlt : Hid _ := hlt
        have Hkg : Hid _ := hkg'
        have hlt' : (k : Int) < n := by omega
        have q1 : decide ((k : Int) < 4398046511104) = false := decide_eq_false (Int.not_lt.2 hk3)
        have q2 : decide ((n : Int) < 4398046511104) = false := decide_eq_false (Int.not_lt.2 hn3)
        clear hlt2 hlt hkg' hk3 hn3
        go_wp2_with fail
        all_goals exact bodyPost_ret (v := .tuple #[.int .i64 (-1), .int .i64 4398046511104]) (by simp [results, Try.results7, go_sem]) rfl ⟨⟨_, rfl⟩, hfr⟩
    · have hkn : k = n := by omega
      by_cases hn2 : (n : Int) < 4398046511104
      · go_wp2_with fail
        exact bodyPost_ret (v := .tuple #[.int .i64 (-1), .int .i64 n]) (by simp [results, Try.results7, go_sem]) rfl ⟨⟨_, rfl⟩, hfr⟩
      · go_wp2_with fail
        exact bodyPost_ret (v := .tuple #[.int .i64 (-1), .int .i64 4398046511104]) (by simp [results, Try.results7, go_sem]) rfl ⟨⟨_, rfl⟩, hfr⟩
set_option maxHeartbeats 400000 in
theorem upTo_any {w : World} {a : Option Addr} {n cap : Nat} (hs : ScrAt w a n) :
    Calls Try.prog 6 #[.slice a n cap] w fun e w' => e = .returned (.int .i64 (-1)) ∧ Fr (fun _ => False) w w' := by
  go_enter Try.func6, Try.ntmps6
  go_wp2_with fail
  refine (walk_loud hs).mono ?_
  rintro e w1 ⟨⟨k, rfl⟩, f1⟩
  go_wp2
  go_ret
  exact ⟨rfl, f1⟩
set_option maxHeartbeats 400000 in
theorem refines_any {w : World} {a : Option Addr} {n cap : Nat} (hs : ScrAt w a n) :
    Calls Try.prog 3 #[.slice a n cap] w fun e w' => e = .returned (.bool true) ∧ Fr (fun _ => False) w w' := by
  go_enter Try.func3, Try.ntmps3
  go_wp2_with fail
  refine (upTo_any hs).mono ?_
  rintro e w1 ⟨rfl, f1⟩
  go_wp2
  go_ret
  exact ⟨rfl, f1⟩
set_option maxHeartbeats 400000 in
theorem quiet_any {w : World} {a : Option Addr} {n cap : Nat} (hs : ScrAt w a n) :
    Calls Try.prog 4 #[.slice a n cap] w fun e w' => e = .returned (.bool true) ∧ Fr (fun _ => False) w w' := by
  go_enter Try.func4, Try.ntmps4
  go_wp2_with fail
  refine (walk_quiet hs).mono ?_
  rintro e w1 ⟨⟨k, rfl⟩, f1⟩
  go_wp2
  go_ret
  exact ⟨rfl, f1⟩
end Go.Proofs.Qxb6500287a
