/- The code generator: short, binary. -/
import Derived.Test.Qxb6500277aGreatGE10
namespace Go.Proofs.Qxb6500277aGreat
open Go Go.RowKit

theorem Ge.Cv.em {G : Ge} {w w' : World} {P : Nat → Prop} {B : Gb} (h : G.Cv w P) (k : Em w P G.g G.hd w' B) : G.Cv w' (Gw P w w') := Go.Proofs.Qxb6500277aGreat.Cv.em h k
/-- The rest of a short circuit. -/
def addSh (P0 : Pg) (B : Gb) (o : Nat) (s : Int) (b : Nat) (r : Exp) : Gb := { B with code := B.code ++ (o :: (u16b (B.code.length + 3 + nE r + 3) ++ (cE P0 (fun _ => 0) (B.code.length + 3) b r ++ (21 :: (u16b (B.code.length + 3 + nE r + 3 + 9) ++ (0 :: i64b s)))))), calls := B.calls ++ fxE P0 (B.code.length + 3) b r }
set_option maxRecDepth 100000 in
set_option maxHeartbeats 1000000 in
theorem shortG {G : Ge} {n : Nat} (I : ExG G n) (r : Exp) (hn : szE r ≤ n) (ht : TyE r) {w : World} {P : Nat → Prop} {B : Gb} {b : Nat} {x s : Int} {o : Nat} (ho : o < 256) (h : GX w G.g P G.hd B) (hc : G.Cv w P) (L : Lie G.ns b (flE b (-1) r)) (hx : x = rtE b r) (W : WtE G.P0 G.li G.lr b r) (hl : B.code.length + nE r + 15 ≤ 40000) : Calls Tryz.prog 236 #[.pointer (some ⟨G.g, 0, none⟩), .int .i64 x, .int .i64 (o : Nat), .int .i64 s] w (EmR w G.g P G.hd (addSh G.P0 B o s b r)) := by
  subst hx
  have E := Em.nil h
  clear h
  go_enter Tryz.func236, Tryz.ntmps236
  have q := aheadF E.1 o ho (by omega)
  go_wp2_with fail
  refine q.mono ?_
  rintro v w3 ⟨rfl, hE⟩
  clear q
  have E3 := E.then (e := .returned (.tuple #[])) ⟨rfl, hE⟩
  clear hE
  have q := I r hn ht w3 _ _ b (-1) _ E3.1 (hc.em E3) L rfl W (by simp [u16b]; omega)
  go_wp2_with fail
  refine q.mono ?_
  rintro v w4 ⟨rfl, hE⟩
  clear q
  have E4 := E3.then (e := .returned (.tuple #[])) ⟨rfl, hE⟩
  clear hE
  have q := overF E4.1 (l := B.holes) (x := B.code.length + 1) rfl (by simp [addE, u16b, cE_len]; omega) (by simp [addE, u16b, cE_len]; omega)
  go_wp2_with fail
  refine q.mono ?_
  rintro v w5 ⟨rfl, hE⟩
  clear q
  have E5 := E4.then (e := .returned (.tuple #[])) ⟨rfl, hE⟩
  clear hE
  have q := numF E5.1 s (by simp [addE, u16b, cE_len, fillL_len]; omega)
  go_wp2_with fail
  refine q.mono ?_
  rintro v w6 ⟨rfl, hE⟩
  clear q
  have E6 := E5.then (e := .returned (.tuple #[])) ⟨rfl, hE⟩
  clear hE
  have q := landF E6.1 (l := B.holes) (x := (addE G.P0 { B with code := B.code ++ (o :: u16b 0), holes := B.holes ++ [((B.code.length + 1 : Nat) : Int)] } b r).code.length + 1) rfl (by simp [addE, u16b, cE_len, fillL_len]; omega) (by simp [addE, u16b, cE_len, fillL_len, i64b]; omega)
  go_wp2_with fail
  refine q.mono ?_
  rintro v w7 ⟨rfl, hE⟩
  clear q
  have E7 := E6.then (e := .returned (.tuple #[])) ⟨rfl, hE⟩
  clear hE
  go_wp2_with fail
  go_end0
  have key : ({ addE G.P0 { B with code := B.code ++ (o :: u16b 0), holes := B.holes ++ [((B.code.length + 1 : Nat) : Int)] } b r with code := fillL (fillL ((addE G.P0 { B with code := B.code ++ (o :: u16b 0), holes := B.holes ++ [((B.code.length + 1 : Nat) : Int)] } b r).code ++ (21 :: u16b 0)) (B.code.length + 1) ((addE G.P0 { B with code := B.code ++ (o :: u16b 0), holes := B.holes ++ [((B.code.length + 1 : Nat) : Int)] } b r).code.length + 3) ++ (0 :: i64b s)) ((addE G.P0 { B with code := B.code ++ (o :: u16b 0), holes := B.holes ++ [((B.code.length + 1 : Nat) : Int)] } b r).code.length + 1) (fillL ((addE G.P0 { B with code := B.code ++ (o :: u16b 0), holes := B.holes ++ [((B.code.length + 1 : Nat) : Int)] } b r).code ++ (21 :: u16b 0)) (B.code.length + 1) ((addE G.P0 { B with code := B.code ++ (o :: u16b 0), holes := B.holes ++ [((B.code.length + 1 : Nat) : Int)] } b r).code.length + 3) ++ (0 :: i64b s)).length, holes := B.holes } : Gb) = addSh G.P0 B o s b r := by
    have hlen : (addE G.P0 { B with code := B.code ++ (o :: u16b 0), holes := B.holes ++ [((B.code.length + 1 : Nat) : Int)] } b r).code.length = B.code.length + 3 + nE r := by rw [addE_len]; simp [u16b]
    have hc0 : (addE G.P0 { B with code := B.code ++ (o :: u16b 0), holes := B.holes ++ [((B.code.length + 1 : Nat) : Int)] } b r).code ++ (21 :: u16b 0) = B.code ++ (o :: 0 :: 0 :: (cE G.P0 (fun _ => 0) (B.code.length + 3) b r ++ (21 :: u16b 0))) := by simp [addE, u16b]
    have h1 : fillL ((addE G.P0 { B with code := B.code ++ (o :: u16b 0), holes := B.holes ++ [((B.code.length + 1 : Nat) : Int)] } b r).code ++ (21 :: u16b 0)) (B.code.length + 1) (B.code.length + 3 + nE r + 3) ++ (0 :: i64b s) = (B.code ++ (o :: (u16b (B.code.length + 3 + nE r + 3) ++ cE G.P0 (fun _ => 0) (B.code.length + 3) b r))) ++ (21 :: 0 :: 0 :: (0 :: i64b s)) := by
      rw [hc0, fillL_at]; simp [u16b]
    have h2 : (B.code ++ (o :: (u16b (B.code.length + 3 + nE r + 3) ++ cE G.P0 (fun _ => 0) (B.code.length + 3) b r))).length = B.code.length + 3 + nE r := by simp [u16b, cE_len]; omega
    rw [hlen, h1]
    have h3 : ((B.code ++ (o :: (u16b (B.code.length + 3 + nE r + 3) ++ cE G.P0 (fun _ => 0) (B.code.length + 3) b r))) ++ (21 :: 0 :: 0 :: (0 :: i64b s))).length = B.code.length + 3 + nE r + 3 + 9 := by rw [List.length_append, h2]; simp [i64b]
    have h4 := fillL_at (B.code ++ (o :: (u16b (B.code.length + 3 + nE r + 3) ++ cE G.P0 (fun _ => 0) (B.code.length + 3) b r))) (0 :: i64b s) 21 (B.code.length + 3 + nE r + 3 + 9)
    rw [h2] at h4
    rw [h3, h4]
    simp [addSh, addE, u16b]
  rw [← key]
  exact E7.ret
/-- Behind the left side of a binary operator. -/
def addB (P0 : Pg) (B : Gb) (b : Nat) (k : Int) (l r : Exp) : Gb := if k = 37 ∨ k = 38 then addSh P0 (addE P0 B b l) (if k = 37 then 22 else 23) (if k = 37 then 0 else 1) (b + szE l) r else { addE P0 (addE P0 B b l) (b + szE l) r with code := (addE P0 (addE P0 B b l) (b + szE l) r).code ++ [opB k] }
theorem addB_eq (P0 : Pg) (B : Gb) (b : Nat) (k p : Int) (l r : Exp) : addB P0 B b k l r = addE P0 B b (.bin k p l r) := by
  unfold addB
  by_cases h : k = 37 ∨ k = 38
  · rw [if_pos h]
    simp [addSh, addE, cE, fxE, h, cE_len]
  · rw [if_neg h]
    simp [addE, cE, fxE, h, cE_len]
set_option maxRecDepth 100000 in
set_option maxHeartbeats 2000000 in
theorem binaryG {G : Ge} {n : Nat} (I : ExG G n) (k : Int) (l r : Exp) (hn : szE l ≤ n) (ht : TyE l) (hn2 : szE r ≤ n) (ht2 : TyE r) {w : World} {P : Nat → Prop} {B : Gb} {b : Nat} (h : GX w G.g P G.hd B) (hc : G.Cv w P) (L1 : Lie G.ns b (flE b (-1) l)) (L2 : Lie G.ns (b + szE l) (flE (b + szE l) (-1) r)) (W1 : WtE G.P0 G.li G.lr b l) (W2 : WtE G.P0 G.li G.lr (b + szE l) r) {p : Int} (hl : B.code.length + nE (.bin k p l r) ≤ 40000) {nd : Nd} (d1 : nd.a = rtE b l) (d2 : nd.b = rtE (b + szE l) r) (d5 : nd.val = k) : Calls Tryz.prog 226 #[.pointer (some ⟨G.g, 0, none⟩), ndV nd] w (EmR w G.g P G.hd (addB G.P0 B b k l r)) := by
  have N := Nw.mk' h hc (Fr.refl _ w) nd
  simp only [nE] at hl
  have hl0 : B.code.length + nE l + nE r + 1 ≤ 40000 := by split at hl <;> omega
  have hl1 : k = 37 ∨ k = 38 → B.code.length + nE l + nE r + 15 ≤ 40000 := fun hk => by rw [if_pos hk] at hl; omega
  clear hl
  have Hd : Hid _ := And.intro d1 (And.intro d2 d5)
  clear d1 d2 d5
  go_enter Tryz.func226, Tryz.ntmps226
  unfold ndV
  go_upto_region 1 with fail
  obtain ⟨nb, hnb⟩ : ∃ nb, nb = w.heap.size := ⟨_, rfl⟩
  obtain ⟨w2, hw2⟩ : ∃ w2, w2 = w.alloc (.cells #[.int .i64 nd.kind, .int .i64 nd.a, .int .i64 nd.b, .int .i64 nd.c, .int .i64 nd.nx, .int .i64 nd.val, .int .i64 nd.pos, .string nd.name] 145) := ⟨_, rfl⟩
  rw [← hw2, ← hnb] at N
  rw [← hw2, ← hnb]
  clear hw2 hnb h hc
  obtain ⟨d1, d2, d5⟩ := Hd.out
  have E := N.em
  have m1 : w2.cell? ⟨nb, 1, none⟩ = some (.int .i64 nd.a) := N.bk.cell (by omega)
  have hnl := N.bk.lt
  rw [d1] at m1
  have q := I l hn ht w2 _ B b (-1) (rtE b l) E.1 (N.c E) L1 rfl W1 (by omega)
  go_wp2_with fail
  refine q.mono ?_
  rintro v w3 ⟨rfl, hE⟩
  clear q
  have E3 := E.then (e := .returned (.tuple #[])) ⟨rfl, hE⟩
  clear hE
  have m5 : w3.cell? ⟨nb, 5, none⟩ = some (.int .i64 nd.val) := (N.b E3).cell (by omega)
  have m2 : w3.cell? ⟨nb, 2, none⟩ = some (.int .i64 nd.b) := (N.b E3).cell (by omega)
  rw [d5] at m5
  rw [d2] at m2
  have hnl3 := (N.b E3).lt
  have hal : (addE G.P0 B b l).code.length = B.code.length + nE l := addE_len ..
  have Hal : Hid _ := hal
  clear hal
  by_cases h37 : k = 37
  · subst h37
    have q := shortG I r hn2 ht2 (o := 22) (s := 0) (by omega) E3.1 (N.c E3) L2 rfl W2 (by rw [Hal.out]; have := hl1 (by omega); omega)
    go_wp2_with fail
    refine q.mono ?_
    rintro v w4 ⟨rfl, hE⟩
    clear q
    have E4 := E3.then (e := .returned (.tuple #[])) ⟨rfl, hE⟩
    clear hE
    go_wp2_with fail
    go_end0
    exact N.done (by simpa [addB] using E4)
  · by_cases h38 : k = 38
    · subst h38
      have q := shortG I r hn2 ht2 (o := 23) (s := 1) (by omega) E3.1 (N.c E3) L2 rfl W2 (by rw [Hal.out]; have := hl1 (by omega); omega)
      go_wp2_with fail
      refine q.mono ?_
      rintro v w4 ⟨rfl, hE⟩
      clear q
      have E4 := E3.then (e := .returned (.tuple #[])) ⟨rfl, hE⟩
      clear hE
      go_wp2_with fail
      go_end0
      exact N.done (by simpa [addB] using E4)
    · have z1 : (k == 37) = false := by simpa using h37
      have z2 : (k == 38) = false := by simpa using h38
      have q := I r hn2 ht2 w3 _ _ (b + szE l) (-1) (rtE (b + szE l) r) E3.1 (N.c E3) L2 rfl W2 (by rw [Hal.out]; omega)
      have Hk : Hid (_ ∧ _) := ⟨h37, h38⟩
      clear h37 h38
      go_wp2_with fail
      refine q.mono ?_
      rintro v w4 ⟨rfl, hE⟩
      clear q
      have E4 := E3.then (e := .returned (.tuple #[])) ⟨rfl, hE⟩
      clear hE
      have p5 : w4.cell? ⟨nb, 5, none⟩ = some (.int .i64 nd.val) := (N.b E4).cell (by omega)
      rw [d5] at p5
      have hnl4 := (N.b E4).lt
      have q := binOpF k w4
      go_wp2_with fail
      refine q.mono ?_
      rintro v _ ⟨rfl, rfl⟩
      clear q
      have q := opF E4.1 (opB k) (opB_lt k) (by rw [addE_len, Hal.out]; omega)
      go_wp2_with fail
      refine q.mono ?_
      rintro v w5 ⟨rfl, hE⟩
      clear q
      have E5 := E4.then (e := .returned (.tuple #[])) ⟨rfl, hE⟩
      clear hE
      go_wp2_with fail
      go_end0
      have hk := Hk.out
      exact N.done (by simpa [addB, hk.1, hk.2] using E5)
end Go.Proofs.Qxb6500277aGreat
