/- The model's atom. -/
import Derived.Test.Qxb6500283aGreatC7
import Derived.Test.Qxb6500283aGreatC6
namespace Go.Proofs.Qxb6500283aGreat
open Go Go.RowKit

set_option maxRecDepth 100000 in
set_option maxHeartbeats 16000000 in
theorem atomM_any {w : World} {r : Nat} {p : ByteArray} {s : Sg} {d B : Nat} {A : Sg → Res → Prop} (hB : 210 ≤ B) (hM : MMem w r p s) (hS : SgOk p s) (hsz : p.size ≤ 129) (hi : s.i < p.size)
    (hG : ∀ w', MMem w' r p s → Calls Tryz.prog 160 #[.pointer (some ⟨r, 0, none⟩), .int .i64 (d : Nat)] w' fun v w'' => ∃ res, GroupR p d A s res ∧ MPost w' r p res B v w'') :
    Calls Tryz.prog 151 #[.pointer (some ⟨r, 0, none⟩), .int .i64 (d : Nat)] w fun v w' => ∃ res, AtomR p d A s res ∧ MPost w r p res B v w' := by
  obtain ⟨c0, c1, _, z, hrl⟩ := hM.cells
  have Hbt : Hid _ := bt_at p s.i hi
  have hcl := bt_lt p s.i
  have F0 := (Fr.refl (fun b => r ≤ b) w).drew
  have hM0 := hM.frame (Fr.refl (fun _ => False) w).drew
  go_enter Tryz.func151, Tryz.ntmps151
  go_wp2_with fail
  refine wp_region_text (by kernel_rfl) (by kernel_rfl) ?_
  go_wp2_with fail
  refine ⟨by kernel_rfl, ?_⟩
  rw [← Hbt.out]
  clear Hbt
  generalize hcc : bt p s.i = c at *
  by_cases h40 : c = 40
  · subst h40
    go_wp2_with fail
    refine (hG _ hM0).mono ?_
    rintro v w1 ⟨res, hg, hP⟩
    have HP : Hid _ := hP
    obtain ⟨u, rfl⟩ := hP.int
    go_wp2_with fail
    go_ret
    exact ⟨_, AtomR.group hcc hg, MPost.pre HP.out F0⟩
  have hlen := hS.len
  have hls : ∀ {res}, signB c = false → LeafR p s.i res → AtomR p d A s (leafM s res) := fun {res} hsg h => by
    cases res with
    | error e => exact AtomR.leafE (by rw [hcc]; exact h40) (by rw [hcc]; exact hsg) h
    | ok v => exact AtomR.leaf (by rw [hcc]; exact h40) (by rw [hcc]; exact hsg) h
  by_cases h91 : c = 91
  · subst h91
    go_wp2_with fail
    refine (classM_any hM0 hS hsz hi hcc).mono ?_
    rintro v w1 ⟨res, hl, hP⟩
    have HP : Hid _ := hP
    obtain ⟨u, rfl⟩ := hP.int
    go_wp2_with fail
    go_ret
    exact ⟨_, hls rfl hl, MPost.pre (MPost.wide HP.out hB) F0⟩
  have hM0' := hM0
  obtain ⟨g, nv, q, hb, hL, hN, hnr⟩ := hM0'
  by_cases h42 : c = 42
  · subst h42
    go_wp2_with fail
    refine (failM_any hb 0 hL.e4 3 s.i).mono ?_
    rintro v w1 ⟨rfl, hb1, f1⟩
    rw [if_pos rfl] at hb1
    go_wp2_with fail
    go_ret
    exact ⟨_, AtomR.sign (by rw [hcc]; rfl), F0.trans f1 (fun b _ h => by omega), ⟨_, rfl⟩, _, nv, s.g, s.i, hb1, hL.setE 3 s.i, by omega, by simp⟩
  by_cases h43 : c = 43
  · subst h43
    go_wp2_with fail
    refine (failM_any hb 0 hL.e4 3 s.i).mono ?_
    rintro v w1 ⟨rfl, hb1, f1⟩
    rw [if_pos rfl] at hb1
    go_wp2_with fail
    go_ret
    exact ⟨_, AtomR.sign (by rw [hcc]; rfl), F0.trans f1 (fun b _ h => by omega), ⟨_, rfl⟩, _, nv, s.g, s.i, hb1, hL.setE 3 s.i, by omega, by simp⟩
  by_cases h63 : c = 63
  · subst h63
    go_wp2_with fail
    refine (failM_any hb 0 hL.e4 3 s.i).mono ?_
    rintro v w1 ⟨rfl, hb1, f1⟩
    rw [if_pos rfl] at hb1
    go_wp2_with fail
    go_ret
    exact ⟨_, AtomR.sign (by rw [hcc]; rfl), F0.trans f1 (fun b _ h => by omega), ⟨_, rfl⟩, _, nv, s.g, s.i, hb1, hL.setE 3 s.i, by omega, by simp⟩
  by_cases h123 : c = 123
  · subst h123
    go_wp2_with fail
    refine (failM_any hb 0 hL.e4 3 s.i).mono ?_
    rintro v w1 ⟨rfl, hb1, f1⟩
    rw [if_pos rfl] at hb1
    go_wp2_with fail
    go_ret
    exact ⟨_, AtomR.sign (by rw [hcc]; rfl), F0.trans f1 (fun b _ h => by omega), ⟨_, rfl⟩, _, nv, s.g, s.i, hb1, hL.setE 3 s.i, by omega, by simp⟩
  have hsg : signB c = false := by simp [signB, h42, h43, h63, h123]
  by_cases h92 : c = 92
  · subst h92
    go_wp2_with fail
    refine (escM_any hb hL.p0 hL.i1 hL.e4 hsz hi).mono ?_
    intro e w2 hE
    cases ho : esc p s.i with
    | none =>
      rw [ho] at hE
      obtain ⟨rfl, ⟨iv, hiv, hb2⟩, f2⟩ := hE
      have hE2 : MErr w2 r p (4, s.i) 210 := ⟨_, nv, s.g, iv, hb2, (hL.setI _).setE 4 s.i, by omega, by simp⟩
      have hE3 : MErr (w2.alloc (.cells #[.int .u64 0, .int .u64 0, .int .u64 0, .int .u64 0] 95)) r p (4, s.i) 210 := by
        obtain ⟨g', nv', G', iv', hb', h'⟩ := hE2
        exact ⟨g', nv', G', iv', hb'.alloc _, h'⟩
      have F2 := (F0.trans f2 (fun b _ h => by omega)).alloc (.cells #[.int .u64 0, .int .u64 0, .int .u64 0, .int .u64 0] 95)
      rw [show setV noP = .agg #[.int .u64 0, .int .u64 0, .int .u64 0, .int .u64 0] by rfl]
      go_wp2_with fail
      refine (setM_err noP hE3).mono ?_
      intro v w3 hP
      have HP : Hid _ := hP
      obtain ⟨u, rfl⟩ := MPost.int hP
      go_wp2_with fail
      go_ret
      exact ⟨_, hls rfl (LeafR.escE hcc ho), MPost.pre (MPost.wide HP.out hB) F2⟩
    | some v =>
      obtain ⟨P, sg, b, j⟩ := v
      rw [ho] at hE
      obtain ⟨rfl, hb2, f2⟩ := hE
      have hM2 : MMem w2 r p ⟨j, s.ns, s.g⟩ := ⟨_, nv, q, hb2, hL.setI _, hN.far hnr f2, hnr⟩
      have hM3 := hM2.frame ((Fr.refl (fun _ => False) w2).alloc (.cells #[.int .u64 (wd (P) 0 : Nat), .int .u64 (wd (P) 1 : Nat), .int .u64 (wd (P) 2 : Nat), .int .u64 (wd (P) 3 : Nat)] 95))
      have F2 := (F0.trans f2 (fun b _ h => by omega)).alloc (.cells #[.int .u64 (wd (P) 0 : Nat), .int .u64 (wd (P) 1 : Nat), .int .u64 (wd (P) 2 : Nat), .int .u64 (wd (P) 3 : Nat)] 95)
      have hj := esc_le ho
      unfold setV
      go_wp2_with fail
      refine (setM_any P hM3 hlen 210 (by simp only; omega)).mono ?_
      intro v w3 hP
      have HP : Hid _ := hP
      obtain ⟨u, rfl⟩ := MPost.int hP
      go_wp2_with fail
      go_ret
      exact ⟨_, hls rfl (LeafR.esc hcc ho), MPost.pre (MPost.wide HP.out hB) F2⟩
  have hM2 := (hM.setI (s.i + 1)).frame (Fr.refl (fun _ => False) _).drew
  have F2 := ((Fr.refl (fun b => r ≤ b) w).setC r 1 (.int .i64 ((s.i + 1 : Nat) : Int)) (fun _ => Nat.le_refl _)).drew
  have hib : (s.i : Int) ≤ 129 := by omega
  by_cases h46 : c = 46
  · subst h46
    go_wp2_with fail
    refine (one_any 10 (by omega) _).mono ?_
    rintro e w3 ⟨rfl, f3⟩
    have hM3 := (hM2.frame f3).frame ((Fr.refl (fun _ => False) w3).alloc (.cells #[.int .u64 (wd (btw 10 10) 0 : Nat), .int .u64 (wd (btw 10 10) 1 : Nat), .int .u64 (wd (btw 10 10) 2 : Nat), .int .u64 (wd (btw 10 10) 3 : Nat)] 95))
    have F3 := (F2.trans f3 (fun _ _ h => h.elim)).alloc (.cells #[.int .u64 (wd (btw 10 10) 0 : Nat), .int .u64 (wd (btw 10 10) 1 : Nat), .int .u64 (wd (btw 10 10) 2 : Nat), .int .u64 (wd (btw 10 10) 3 : Nat)] 95)
    unfold setV
    go_wp2_with fail
    refine (not_any (btw 10 10) _).mono ?_
    rintro e w4 ⟨rfl, f4⟩
    have hM4 := (hM3.frame f4).frame ((Fr.refl (fun _ => False) w4).alloc (.cells #[.int .u64 (wd (notP (btw 10 10)) 0 : Nat), .int .u64 (wd (notP (btw 10 10)) 1 : Nat), .int .u64 (wd (notP (btw 10 10)) 2 : Nat), .int .u64 (wd (notP (btw 10 10)) 3 : Nat)] 95))
    have F4 := (F3.trans f4 (fun _ _ h => h.elim)).alloc (.cells #[.int .u64 (wd (notP (btw 10 10)) 0 : Nat), .int .u64 (wd (notP (btw 10 10)) 1 : Nat), .int .u64 (wd (notP (btw 10 10)) 2 : Nat), .int .u64 (wd (notP (btw 10 10)) 3 : Nat)] 95)
    unfold setV
    go_wp2_with fail
    refine (setM_any (notP (btw 10 10)) hM4 hlen 210 (by simp only; omega)).mono ?_
    intro v w5 hP
    have HP : Hid _ := hP
    obtain ⟨u, rfl⟩ := MPost.int hP
    go_wp2_with fail
    go_ret
    exact ⟨_, hls rfl (LeafR.dot hcc), MPost.pre (MPost.wide HP.out hB) F4⟩
  by_cases h94 : c = 94
  · subst h94
    have hv : ndV (leafNd 2 noP) = .agg #[.int .i64 2, .int .i64 (-1), .int .i64 (-1), .int .i64 0, .int .i64 0, .int .i64 0, .bool false, .int .u64 0, .int .u64 0, .int .u64 0, .int .u64 0] := by simp [ndV, leafNd, wd_zero]
    go_wp2_with fail
    rw [← hv]
    refine (addM_any (leafNd 2 noP) hM2 hlen 210 (by simp only; omega)).mono ?_
    intro v w5 hP
    have HP : Hid _ := hP
    obtain ⟨u, rfl⟩ := MPost.int hP
    go_wp2_with fail
    go_ret
    exact ⟨_, hls rfl (LeafR.bgn hcc), MPost.pre (MPost.wide HP.out hB) F2⟩
  by_cases h36 : c = 36
  · subst h36
    have hv : ndV (leafNd 3 noP) = .agg #[.int .i64 3, .int .i64 (-1), .int .i64 (-1), .int .i64 0, .int .i64 0, .int .i64 0, .bool false, .int .u64 0, .int .u64 0, .int .u64 0, .int .u64 0] := by simp [ndV, leafNd, wd_zero]
    go_wp2_with fail
    rw [← hv]
    refine (addM_any (leafNd 3 noP) hM2 hlen 210 (by simp only; omega)).mono ?_
    intro v w5 hP
    have HP : Hid _ := hP
    obtain ⟨u, rfl⟩ := MPost.int hP
    go_wp2_with fail
    go_ret
    exact ⟨_, hls rfl (LeafR.end_ hcc), MPost.pre (MPost.wide HP.out hB) F2⟩
  go_wp2_with fail
  refine (one_any c hcl _).mono ?_
  rintro e w3 ⟨rfl, f3⟩
  have hM3 := (hM2.frame f3).frame ((Fr.refl (fun _ => False) w3).alloc (.cells #[.int .u64 (wd (btw c c) 0 : Nat), .int .u64 (wd (btw c c) 1 : Nat), .int .u64 (wd (btw c c) 2 : Nat), .int .u64 (wd (btw c c) 3 : Nat)] 95))
  have F3 := (F2.trans f3 (fun _ _ h => h.elim)).alloc (.cells #[.int .u64 (wd (btw c c) 0 : Nat), .int .u64 (wd (btw c c) 1 : Nat), .int .u64 (wd (btw c c) 2 : Nat), .int .u64 (wd (btw c c) 3 : Nat)] 95)
  unfold setV
  go_wp2_with fail
  refine (setM_any (btw c c) hM3 hlen 210 (by simp only; omega)).mono ?_
  intro v w5 hP
  have HP : Hid _ := hP
  obtain ⟨u, rfl⟩ := MPost.int hP
  go_wp2_with fail
  go_ret
  have hlit := LeafR.lit (p := p) (i := s.i) (by rw [hcc]; exact h91) (by rw [hcc]; exact h92) (by rw [hcc]; exact h46) (by rw [hcc]; exact h94) (by rw [hcc]; exact h36)
  rw [hcc] at hlit
  exact ⟨_, hls hsg hlit, MPost.pre (MPost.wide HP.out hB) F3⟩
end Go.Proofs.Qxb6500283aGreat
