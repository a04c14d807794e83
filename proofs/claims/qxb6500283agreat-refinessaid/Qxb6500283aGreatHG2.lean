/- scan. -/
import Derived.Test.Qxb6500283aGreatHG1
namespace Go.Proofs.Qxb6500283aGreat
open Go Go.RowKit

def arr11 (v0 v1 v2 v3 v4 v5 v6 v7 v8 v9 v10 : Value) : Nat → Value := fun o => (#[v0, v1, v2, v3, v4, v5, v6, v7, v8, v9, v10] : Array Value).getD o undef
theorem new11 (w : World) (v0 v1 v2 v3 v4 v5 v6 v7 v8 v9 v10 : Value) : Blk (w.alloc (.cells #[v0, v1, v2, v3, v4, v5, v6, v7, v8, v9, v10] 66)) w.heap.size 11 (arr11 v0 v1 v2 v3 v4 v5 v6 v7 v8 v9 v10) := Blk.new w _ _ _ fun o ho => by
  have ho : o < 11 := by simpa using ho
  obtain rfl | rfl | rfl | rfl | rfl | rfl | rfl | rfl | rfl | rfl | rfl : o = 0 ∨ o = 1 ∨ o = 2 ∨ o = 3 ∨ o = 4 ∨ o = 5 ∨ o = 6 ∨ o = 7 ∨ o = 8 ∨ o = 9 ∨ o = 10 := by omega
  all_goals rfl
/-- What scan leaves: the error that Has told, or all matches. -/
def ScanR (p s : ByteArray) (er q : Int) (cs : List Cp) (er' q' : Int) : Prop := (er ≠ 0 ∧ er' = er ∧ q' = q ∧ cs = []) ∨ (er = 0 ∧ er' = 0 ∧ q' = 0 ∧ All p s 0 cs)
structure ScAt (X : Nat → Prop) (w wr : World) (A : Fa) (ps : List Pc) (G hb : Nat) (p s : ByteArray) (er0 : Int) (q0 : Int) (fr : Nat) (l : List Cp) (er q : Int) (o : Option Cp) : Prop where
  sol : Sol p s fr er q o
  fle : fr ≤ s.size
  blk : Blk wr hb 11 (arr11 (.int .i64 er) (.int .i64 q) (.bool (okOf o)) (.int .i64 (-1)) (.int .i64 (-1)) (.int .i64 (-1)) (.int .i64 (-1)) (.int .i64 (-1)) (.int .i64 (-1)) (.int .i64 (-1)) (.int .i64 (-1)))
  fnd : Fnd (fun c => X c ∨ c = hb) wr A l ps (G + 300 * fr)
  all : ∀ r, All p s fr r → All p s 0 (l ++ r)
  asc : ∀ r, AscS s.size r fr → AscS s.size (l ++ r) 0
  len : l.length ≤ fr
  erz : er ≠ 0 → l = [] ∧ er = er0 ∧ q = q0
  z0 : er = 0 → er0 = 0
  fr' : Fr (fun c => A.eo c ∨ A.fo c) w wr
theorem Fnd.zero {X : Nat → Prop} {w : World} {A : Fa} {cs : List Cp} {ps : List Pc} {G : Nat} (h : Fnd X w A cs ps G) : Fnd X (w.setCell ⟨A.fb, 2, none⟩ (.int .i64 0)) A [] ps G := by
  have hfd := (h.pm.fd.set 2 (.int .i64 0)).congr (fdCell_n A.e A.sb _ A.pb ps.length 0)
  have k1 := (Fr.refl A.fo w).setC A.fb 2 (.int .i64 0) (fun _ => .inl rfl)
  have hne := h.ne
  refine h.own k1 ⟨hfd, ?_, hne.2.2, h.pm.le⟩ ⟨?_, by simp⟩ trivial h.ok
  · obtain ⟨f, a, b⟩ := h.pm.pc
    exact ⟨f, a.setOther _ _ (fun e => hne.2.2 e.symm), b⟩
  · obtain ⟨f, a, b⟩ := h.sm.sp
    exact ⟨f, a.setOther _ _ (fun e => hne.1 e.symm), fun i hi => by simp at hi⟩
theorem Fnd.push {X : Nat → Prop} {w : World} {A : Fa} {l : List Cp} {ps : List Pc} {G : Nat} (h : Fnd X w A l ps G) (c : Cp) (hl : l.length < 257) (hA : AscS 256 (l ++ [c]) 0) : Fnd X (((((((((w.setCell ⟨A.sb, l.length * 8, none⟩ (.int .i64 (c 0))).setCell ⟨A.sb, l.length * 8 + 1, none⟩ (.int .i64 (c 1))).setCell ⟨A.sb, l.length * 8 + 2, none⟩ (.int .i64 (c 2))).setCell ⟨A.sb, l.length * 8 + 3, none⟩ (.int .i64 (c 3))).setCell ⟨A.sb, l.length * 8 + 4, none⟩ (.int .i64 (c 4))).setCell ⟨A.sb, l.length * 8 + 5, none⟩ (.int .i64 (c 5))).setCell ⟨A.sb, l.length * 8 + 6, none⟩ (.int .i64 (c 6))).setCell ⟨A.sb, l.length * 8 + 7, none⟩ (.int .i64 (c 7))).setCell ⟨A.fb, 2, none⟩ (.int .i64 ((l.length : Int) + 1))) A (l ++ [c]) ps G ∧ Fr A.fo w (((((((((w.setCell ⟨A.sb, l.length * 8, none⟩ (.int .i64 (c 0))).setCell ⟨A.sb, l.length * 8 + 1, none⟩ (.int .i64 (c 1))).setCell ⟨A.sb, l.length * 8 + 2, none⟩ (.int .i64 (c 2))).setCell ⟨A.sb, l.length * 8 + 3, none⟩ (.int .i64 (c 3))).setCell ⟨A.sb, l.length * 8 + 4, none⟩ (.int .i64 (c 4))).setCell ⟨A.sb, l.length * 8 + 5, none⟩ (.int .i64 (c 5))).setCell ⟨A.sb, l.length * 8 + 6, none⟩ (.int .i64 (c 6))).setCell ⟨A.sb, l.length * 8 + 7, none⟩ (.int .i64 (c 7))).setCell ⟨A.fb, 2, none⟩ (.int .i64 ((l.length : Int) + 1))) := by
  have hne := h.ne
  have k1 := (((((((((Fr.refl A.fo w).setC A.sb (l.length * 8) (.int .i64 (c 0)) (fun _ => .inr (.inl rfl))).setC A.sb (l.length * 8 + 1) (.int .i64 (c 1)) (fun _ => .inr (.inl rfl))).setC A.sb (l.length * 8 + 2) (.int .i64 (c 2)) (fun _ => .inr (.inl rfl))).setC A.sb (l.length * 8 + 3) (.int .i64 (c 3)) (fun _ => .inr (.inl rfl))).setC A.sb (l.length * 8 + 4) (.int .i64 (c 4)) (fun _ => .inr (.inl rfl))).setC A.sb (l.length * 8 + 5) (.int .i64 (c 5)) (fun _ => .inr (.inl rfl))).setC A.sb (l.length * 8 + 6) (.int .i64 (c 6)) (fun _ => .inr (.inl rfl))).setC A.sb (l.length * 8 + 7) (.int .i64 (c 7)) (fun _ => .inr (.inl rfl))).setC A.fb 2 (.int .i64 ((l.length : Int) + 1)) (fun _ => .inl rfl)
  have e1 : (l ++ [c]).length = l.length + 1 := by simp
  have hfd := (((((((((h.pm.fd.setOther ⟨A.sb, l.length * 8, none⟩ (.int .i64 (c 0)) hne.1).setOther ⟨A.sb, l.length * 8 + 1, none⟩ (.int .i64 (c 1)) hne.1).setOther ⟨A.sb, l.length * 8 + 2, none⟩ (.int .i64 (c 2)) hne.1).setOther ⟨A.sb, l.length * 8 + 3, none⟩ (.int .i64 (c 3)) hne.1).setOther ⟨A.sb, l.length * 8 + 4, none⟩ (.int .i64 (c 4)) hne.1).setOther ⟨A.sb, l.length * 8 + 5, none⟩ (.int .i64 (c 5)) hne.1).setOther ⟨A.sb, l.length * 8 + 6, none⟩ (.int .i64 (c 6)) hne.1).setOther ⟨A.sb, l.length * 8 + 7, none⟩ (.int .i64 (c 7)) hne.1).set 2 (.int .i64 ((l.length : Int) + 1))).congr (fdCell_n A.e A.sb _ A.pb ps.length (l.length + 1))
  refine ⟨h.own k1 ⟨by rw [e1]; exact hfd, ?_, hne.2.2, h.pm.le⟩ ⟨?_, by omega⟩ hA h.ok, k1⟩
  · obtain ⟨f, a, b⟩ := h.pm.pc
    exact ⟨f, ((((((((a.setOther ⟨A.sb, l.length * 8, none⟩ (.int .i64 (c 0)) hne.2.1).setOther ⟨A.sb, l.length * 8 + 1, none⟩ (.int .i64 (c 1)) hne.2.1).setOther ⟨A.sb, l.length * 8 + 2, none⟩ (.int .i64 (c 2)) hne.2.1).setOther ⟨A.sb, l.length * 8 + 3, none⟩ (.int .i64 (c 3)) hne.2.1).setOther ⟨A.sb, l.length * 8 + 4, none⟩ (.int .i64 (c 4)) hne.2.1).setOther ⟨A.sb, l.length * 8 + 5, none⟩ (.int .i64 (c 5)) hne.2.1).setOther ⟨A.sb, l.length * 8 + 6, none⟩ (.int .i64 (c 6)) hne.2.1).setOther ⟨A.sb, l.length * 8 + 7, none⟩ (.int .i64 (c 7)) hne.2.1).setOther _ _ (fun e => hne.2.2 e.symm), b⟩
  · obtain ⟨f, a, b⟩ := h.sm.sp
    exact ⟨_, ((((((((a.set (l.length * 8) (.int .i64 (c 0))).set (l.length * 8 + 1) (.int .i64 (c 1))).set (l.length * 8 + 2) (.int .i64 (c 2))).set (l.length * 8 + 3) (.int .i64 (c 3))).set (l.length * 8 + 4) (.int .i64 (c 4))).set (l.length * 8 + 5) (.int .i64 (c 5))).set (l.length * 8 + 6) (.int .i64 (c 6))).set (l.length * 8 + 7) (.int .i64 (c 7))).setOther ⟨A.fb, 2, none⟩ (.int .i64 ((l.length : Int) + 1)) (fun e => hne.1 e.symm), b.push c⟩
set_option maxRecDepth 100000 in
set_option maxHeartbeats 8000000 in
theorem scan_any {X : Nat → Prop} {w : World} {A : Fa} {cs : List Cp} {ps : List Pc} {G : Nat} (h : Fnd X w A cs ps G) (hG : G ≤ 800000000000000000) (p s : ByteArray) (hs : s.size ≤ 256) {er0 q0 : Int} {o0 : Option Cp} (hS : Sol p s 0 er0 q0 o0) :
    Calls Tryz.prog 61 #[.pointer (some ⟨A.fb, 0, none⟩), .string p, .string s, foundV er0 q0 (okOf o0) noC] w fun v w' => ∃ er q cs', v = .returned (.tuple #[.int .i64 er, .int .i64 q]) ∧ ScanR p s er0 q0 cs' er q ∧ Fnd X w' A cs' ps (G + 90000) ∧ Fr (fun c => A.eo c ∨ A.fo c) w w' := by
  rw [foundV_no]
  have hsb : (s.size : Int) ≤ 256 := by omega
  have hfl := h.lt (c := A.fb) (.inr (.inl (.inl rfl)))
  have g2 := h.pm.fd.cell (o := 2) (by omega)
  have zf := h.pm.fd.frozen
  have hz := h.zero
  have kz := (Fr.refl (fun c => A.eo c ∨ A.fo c) w).setC A.fb 2 (.int .i64 0) (fun _ => .inr (.inl rfl))
  have k0 := (Fr.refl (fun _ => False) (w.setCell ⟨A.fb, 2, none⟩ (.int .i64 0))).alloc (.cells #[.int .i64 er0, .int .i64 q0, .bool (okOf o0), .int .i64 (-1), .int .i64 (-1), .int .i64 (-1), .int .i64 (-1), .int .i64 (-1), .int .i64 (-1), .int .i64 (-1), .int .i64 (-1)] 66)
  have h1 := hz.step (X' := fun c => X c ∨ c = w.heap.size) k0 (fun _ h => h.elim) (fun c hc => hc.imp id (fun e => by simp [e]))
  have hb1 := new11 (w.setCell ⟨A.fb, 2, none⟩ (.int .i64 0)) (.int .i64 er0) (.int .i64 q0) (.bool (okOf o0)) (.int .i64 (-1)) (.int .i64 (-1)) (.int .i64 (-1)) (.int .i64 (-1)) (.int .i64 (-1)) (.int .i64 (-1)) (.int .i64 (-1)) (.int .i64 (-1))
  simp only [World.size_setCell] at hb1
  have F1 : Fr (fun c => A.eo c ∨ A.fo c) w _ := kz.trans k0 (fun _ _ h => h.elim)
  have XL : ∀ c, A.eo c ∨ A.fo c → c < w.heap.size := fun c hc => h.lt (hc.elim .inl (fun h => .inr (.inl h)))
  have HS : Hid _ := hS
  clear hS hz kz k0
  go_enter Tryz.func61, Tryz.ntmps61
  go_wp2_with fail
  obtain ⟨hb, hhb⟩ : ∃ hb, hb = w.heap.size := ⟨_, rfl⟩
  have hhw : w.heap.size ≤ hb := by omega
  rw [← hhb] at h1 hb1 ⊢
  clear hhb g2 zf
  go_loopg [10] (s.size + 1) (fun g iv wr => ∃ fr l er q o, iv = .int .i64 (fr : Nat) ∧ fr + g = s.size + 1 ∧ ScAt X w wr A ps G hb p s er0 q0 fr l er q o)
  case atStart => exact ⟨0, [], er0, q0, o0, rfl, by omega, ⟨HS.out, by omega, hb1, h1, fun r h => h, fun r h => h, by simp, fun _ => ⟨rfl, rfl, rfl⟩, fun h => h, F1⟩⟩
  case round =>
    obtain ⟨fr, l, er, q, o, rfl, hg, ⟨sol, fle, blk, fnd, all, asc, len, erz, z0, frr⟩⟩ := hrel
    have hg' : fr + gk = s.size + 1 := hg
    clear hg h1 hb1 F1
    have b0 := blk.cell (o := 0) (by omega)
    have b1 := blk.cell (o := 1) (by omega)
    have b2 := blk.cell (o := 2) (by omega)
    simp only [arr11, get11] at b0 b1 b2
    have hbl := blk.lt
    have g0 := fnd.pm.fd.cell (o := 0) (by omega)
    have g1 := fnd.pm.fd.cell (o := 1) (by omega)
    have g2 := fnd.pm.fd.cell (o := 2) (by omega)
    simp only [fdCell] at g0 g1 g2
    have lF := fnd.pm.fd.lt
    have Hall : Hid _ := all
    have Hasc : Hid _ := asc
    have Herz : Hid _ := erz
    have Hz0 : Hid _ := z0
    have Hsol : Hid _ := sol
    clear all asc erz z0 sol
    have lenb : (l.length : Int) ≤ 256 := by omega
    have frb : (fr : Int) ≤ 256 := by omega
    have hfin : ∀ cs' : List Cp, AscS s.size cs' 0 → AscS 256 cs' 0 := fun cs' hh => hh.up hs
    by_cases he : er = 0
    · subst he
      cases o with
      | none =>
        have hq : q = 0 := Hsol.out.q0 fle
        subst hq
        simp only [okOf] at b2
        have hfd := (fnd.same (Fr.refl (fun _ => False) _).drew.drew).step (X' := X) (Fr.refl (fun _ => False) _) (fun _ h => h.elim) (fun c hc => .inl (.inl hc))
        go_wp2_with fail
        refine wp_region_text (by kernel_rfl) (by kernel_rfl) ?_
        go_wp2_with fail
        refine ⟨by kernel_rfl, ?_⟩
        go_wp2_with fail
        refine wp_region_text (by kernel_rfl) (by kernel_rfl) ?_
        go_wp2_with fail
        refine ⟨by kernel_rfl, ?_⟩
        go_wp2_with fail
        refine bodyPost_ret (v := .tuple #[.int .i64 0, .int .i64 0]) (by simp [results, Tryz.results61, go_sem]) rfl ?_
        have hl := Hall.out [] (.stop fle Hsol.out)
        rw [List.append_nil] at hl
        exact ⟨0, 0, l, rfl, .inr ⟨Hz0.out trivial, rfl, rfl, hl⟩, hfd.le (by omega), frr.drew.drew⟩
      | some c =>
        have hhit := Hsol.out.hit
        have hm := hhit.2.2.2.2.2
        have hnx := nx_lt hm
        rw [show okOf (some c) = true from rfl] at b2
        have hN : decide ((l.length : Int) < 257) = true := decide_eq_true (by omega)
        have fd1 := fnd.same (Fr.refl (fun _ => False) _).drew
        obtain ⟨ea, eb, hE⟩ := fd1.eng
        go_wp2_with fail
        refine wp_region_text (by kernel_rfl) (by kernel_rfl) ?_
        go_wp2_with fail
        refine ⟨by kernel_rfl, ?_⟩
        go_wp2_with fail
        refine (matchG hE p s fr).mono ?_
        rintro v w2 ⟨⟨er2, q2, o2, rfl, hS2⟩, n1, m1, hE2, f2⟩
        obtain ⟨e1, e2, e3⟩ := Hsol.out.det hS2
        subst e1 e2 e3
        have fd2 := fd1.ofE f2 hE2
        have blk2 := (blk.drew).frame f2 (fd1.ef (.inr (.inr rfl)))
        have F2 : Fr (fun c => A.eo c ∨ A.fo c) w w2 := (frr.drew).trans f2 (fun _ _ h => .inl h)
        clear hS2 hE hE2 b0 b1 b2 g0 g1 g2
        obtain ⟨sf, sblk, sH⟩ := fd2.sm.sp
        have s0 := sblk.cell (o := l.length * 8) (by omega)
        have s1 := sblk.cell (o := l.length * 8 + 1) (by omega)
        have s2 := sblk.cell (o := l.length * 8 + 2) (by omega)
        have s3 := sblk.cell (o := l.length * 8 + 3) (by omega)
        have s4 := sblk.cell (o := l.length * 8 + 4) (by omega)
        have s5 := sblk.cell (o := l.length * 8 + 5) (by omega)
        have s6 := sblk.cell (o := l.length * 8 + 6) (by omega)
        have s7 := sblk.cell (o := l.length * 8 + 7) (by omega)
        have hne1 : A.fb ≠ A.sb := fd2.ne.1
        have hne2 : A.sb ≠ A.fb := fun e => hne1 e.symm
        have zs := sblk.frozen
        have ls := sblk.lt
        have zf := fd2.pm.fd.frozen
        have g0 := fd2.pm.fd.cell (o := 0) (by omega)
        have g1 := fd2.pm.fd.cell (o := 1) (by omega)
        have g2 := fd2.pm.fd.cell (o := 2) (by omega)
        simp only [fdCell] at g0 g1 g2
        have lF := fd2.pm.fd.lt
        have hasc2 : AscS 256 (l ++ [c]) 0 := (Hasc.out [c] ⟨hm.lo, hm.mid, hm.hi, hm.cap, trivial⟩).up hs
        obtain ⟨fd3, k3⟩ := fd2.push c (by omega) hasc2
        have kA := (Fr.refl (fun _ => False) (((((((((w2.setCell ⟨A.sb, l.length * 8, none⟩ (.int .i64 (c 0))).setCell ⟨A.sb, l.length * 8 + 1, none⟩ (.int .i64 (c 1))).setCell ⟨A.sb, l.length * 8 + 2, none⟩ (.int .i64 (c 2))).setCell ⟨A.sb, l.length * 8 + 3, none⟩ (.int .i64 (c 3))).setCell ⟨A.sb, l.length * 8 + 4, none⟩ (.int .i64 (c 4))).setCell ⟨A.sb, l.length * 8 + 5, none⟩ (.int .i64 (c 5))).setCell ⟨A.sb, l.length * 8 + 6, none⟩ (.int .i64 (c 6))).setCell ⟨A.sb, l.length * 8 + 7, none⟩ (.int .i64 (c 7))).setCell ⟨A.fb, 2, none⟩ (.int .i64 ((l.length : Int) + 1)))).alloc (.cells #[.int .i64 0, .int .i64 q, .bool true, .int .i64 (c 0), .int .i64 (c 1), .int .i64 (c 2), .int .i64 (c 3), .int .i64 (c 4), .int .i64 (c 5), .int .i64 (c 6), .int .i64 (c 7)] 66)
        have fd4 := fd3.same kA
        have blk4 := (blk2.frame k3 (fun hf => fd2.xf hb (.inr rfl) hf)).frame kA (fun h => h)
        have F4 := (F2.trans k3 (fun _ _ h => .inr h)).trans kA (fun _ _ h => h.elim)
        have hall2 : ∀ r, All p s (nx c) r → All p s 0 (l ++ [c] ++ r) := fun r hr => by
          have := Hall.out (c :: r) (.step Hsol.out hr)
          rwa [List.append_assoc, List.singleton_append]
        have hascr : ∀ r, AscS s.size r (nx c) → AscS s.size (l ++ [c] ++ r) 0 := fun r hr => by
          have := Hasc.out (c :: r) ⟨hm.lo, hm.mid, hm.hi, hm.cap, hr⟩
          rwa [List.append_assoc, List.singleton_append]
        have Hall2 : Hid _ := hall2
        have Hascr : Hid _ := hascr
        have c1b : c 1 ≤ 256 := by have := hm.hi; omega
        have c1l : 0 ≤ c 1 := by have := hm.lo; have := hm.mid; omega
        have Hm : Hid _ := hm
        have Hhit : Hid _ := hhit
        have HF4 : Hid _ := F4
        have HF2 : Hid _ := F2
        have hnxv : (c 0 = c 1 ∧ ((nx c : Nat) : Int) = c 1 + 1) ∨ (c 0 ≠ c 1 ∧ ((nx c : Nat) : Int) = c 1) := by
          unfold nx
          by_cases hc : c 0 = c 1
          · rw [if_pos hc]; left; exact ⟨hc, by omega⟩
          · rw [if_neg hc]; right; exact ⟨hc, by omega⟩
        have Hfd4 : Hid _ := fd4
        have Hblk4 : Hid _ := blk4
        clear hall2 hascr hasc2 hm hhit F4 F2 sH fd3 k3 kA fd4 blk4 sblk fd1 blk fnd frr blk2 hfin
        rw [show okOf (some c) = true from rfl, show cpOf (some c) = c from rfl]
        unfold foundV
        rcases hnxv with ⟨hc, hv⟩ | ⟨hc, hv⟩
        · have t1 : (c 1 == c 0) = true := by simpa using hc.symm
          have Hv : Hid _ := hv
          by_cases hgt : s.size < nx c
          · have t2 : decide ((s.size : Int) < c 1 + 1) = true := decide_eq_true (by omega)
            clear hc hv
            go_wp2_with fail
            refine wp_region_text (by kernel_rfl) (by kernel_rfl) ?_
            go_wp2_with fail
            refine ⟨by kernel_rfl, ?_⟩
            go_wp2_with fail
            refine bodyPost_ret (v := .tuple #[.int .i64 0, .int .i64 0]) (by simp [results, Tryz.results61, go_sem]) rfl ?_
            have hl := Hall2.out [] (.past hgt)
            rw [List.append_nil] at hl
            exact ⟨0, 0, l ++ [c], rfl, .inr ⟨Hz0.out trivial, rfl, rfl, hl⟩, ((Hfd4.out.same (Fr.refl (fun _ => False) _).drew).step (X' := X) (Fr.refl (fun _ => False) _) (fun _ h => h.elim) (fun x hx => .inl (.inl hx))).le (by omega), HF4.out.drew⟩
          · have t2 : decide ((s.size : Int) < c 1 + 1) = false := decide_eq_false (by omega)
            obtain ⟨ea, eb, hE5⟩ := (Hfd4.out.same (Fr.refl (fun _ => False) _).drew).eng
            have g0' := Hfd4.out.pm.fd.cell (o := 0) (by omega)
            simp only [fdCell] at g0'
            have HE5 : Hid _ := hE5
            clear hc hv hE5
            go_wp2_with fail
            refine wp_region_text (by kernel_rfl) (by kernel_rfl) ?_
            go_wp2_with fail
            refine ⟨by kernel_rfl, ?_⟩
            go_wp2_with fail
            have hcall := hasG HE5.out (by omega) p s (nx c : Nat)
            rw [Hv.out] at hcall
            refine hcall.mono ?_
            rintro v w6 ⟨⟨er3, q3, o3, rfl, hS3⟩, n3, m3, hE6, f6⟩
            rw [← Hv.out] at hS3
            have fd6 := (Hfd4.out.same (Fr.refl (fun _ => False) _).drew).ofE f6 hE6
            have blk6 := Blk.frame (Blk.drew Hblk4.out) f6 ((Hfd4.out.same (Fr.refl (fun _ => False) _).drew).ef (.inr (.inr rfl)))
            clear hcall hE6
            have m0 := blk6.cell (o := 0) (by omega)
            have m1 := blk6.cell (o := 1) (by omega)
            have m2 := blk6.cell (o := 2) (by omega)
            have m3 := blk6.cell (o := 3) (by omega)
            have m4 := blk6.cell (o := 4) (by omega)
            have m5 := blk6.cell (o := 5) (by omega)
            have m6 := blk6.cell (o := 6) (by omega)
            have m7 := blk6.cell (o := 7) (by omega)
            have m8 := blk6.cell (o := 8) (by omega)
            have m9 := blk6.cell (o := 9) (by omega)
            have m10 := blk6.cell (o := 10) (by omega)
            have zR := blk6.frozen
            have lR := blk6.lt
            obtain ⟨ez, qz⟩ := Hsol.out.zero hS3 (by omega)
            subst ez qz
            have HS3 : Hid _ := hS3
            clear hS3
            have e11 := cells11 blk6 (.int .i64 0) (.int .i64 0) (.bool (okOf o3)) (.int .i64 (-1)) (.int .i64 (-1)) (.int .i64 (-1)) (.int .i64 (-1)) (.int .i64 (-1)) (.int .i64 (-1)) (.int .i64 (-1)) (.int .i64 (-1))
            have k11 := fr11 w6 hb (.int .i64 0) (.int .i64 0) (.bool (okOf o3)) (.int .i64 (-1)) (.int .i64 (-1)) (.int .i64 (-1)) (.int .i64 (-1)) (.int .i64 (-1)) (.int .i64 (-1)) (.int .i64 (-1)) (.int .i64 (-1))
            have F6 := ((HF4.out.drew).trans f6 (fun _ _ h => .inl h)).trans k11 (fun x hx e => by omega)
            have fd7 := (fd6.step (X' := fun c => X c ∨ c = hb) k11 (fun x hx => .inl (.inr hx)) (fun x hx => .inl hx)).le (show _ ≤ G + 300 * nx c by omega)
            have He11 : Hid _ := e11
            have HF6 : Hid _ := F6
            have Hfd7 : Hid _ := fd7
            clear e11 k11 F6 fd7 fd6 blk6
            rw [foundV_no]
            go_wp2_with fail
            go_roundg (s.size + 1 - nx c)
            case measure => omega
            case rel => exact ⟨nx c, l ++ [c], 0, 0, o3, by rw [Hv.out], by omega, ⟨HS3.out, by omega, He11.out, Hfd7.out, Hall2.out, Hascr.out, by simp; omega, fun hh => absurd rfl hh, fun _ => Hz0.out trivial, HF6.out⟩⟩
        · have t1 : (c 1 == c 0) = false := by simpa using (fun e => hc e.symm)
          have Hv : Hid _ := hv
          by_cases hgt : s.size < nx c
          · have t2 : decide ((s.size : Int) < c 1) = true := decide_eq_true (by omega)
            clear hc hv
            go_wp2_with fail
            refine wp_region_text (by kernel_rfl) (by kernel_rfl) ?_
            go_wp2_with fail
            refine ⟨by kernel_rfl, ?_⟩
            go_wp2_with fail
            refine bodyPost_ret (v := .tuple #[.int .i64 0, .int .i64 0]) (by simp [results, Tryz.results61, go_sem]) rfl ?_
            have hl := Hall2.out [] (.past hgt)
            rw [List.append_nil] at hl
            exact ⟨0, 0, l ++ [c], rfl, .inr ⟨Hz0.out trivial, rfl, rfl, hl⟩, ((Hfd4.out.same (Fr.refl (fun _ => False) _).drew).step (X' := X) (Fr.refl (fun _ => False) _) (fun _ h => h.elim) (fun x hx => .inl (.inl hx))).le (by omega), HF4.out.drew⟩
          · have t2 : decide ((s.size : Int) < c 1) = false := decide_eq_false (by omega)
            obtain ⟨ea, eb, hE5⟩ := (Hfd4.out.same (Fr.refl (fun _ => False) _).drew).eng
            have g0' := Hfd4.out.pm.fd.cell (o := 0) (by omega)
            simp only [fdCell] at g0'
            have HE5 : Hid _ := hE5
            clear hc hv hE5
            go_wp2_with fail
            refine wp_region_text (by kernel_rfl) (by kernel_rfl) ?_
            go_wp2_with fail
            refine ⟨by kernel_rfl, ?_⟩
            go_wp2_with fail
            have hcall := hasG HE5.out (by omega) p s (nx c : Nat)
            rw [Hv.out] at hcall
            refine hcall.mono ?_
            rintro v w6 ⟨⟨er3, q3, o3, rfl, hS3⟩, n3, m3, hE6, f6⟩
            rw [← Hv.out] at hS3
            have fd6 := (Hfd4.out.same (Fr.refl (fun _ => False) _).drew).ofE f6 hE6
            have blk6 := Blk.frame (Blk.drew Hblk4.out) f6 ((Hfd4.out.same (Fr.refl (fun _ => False) _).drew).ef (.inr (.inr rfl)))
            clear hcall hE6
            have m0 := blk6.cell (o := 0) (by omega)
            have m1 := blk6.cell (o := 1) (by omega)
            have m2 := blk6.cell (o := 2) (by omega)
            have m3 := blk6.cell (o := 3) (by omega)
            have m4 := blk6.cell (o := 4) (by omega)
            have m5 := blk6.cell (o := 5) (by omega)
            have m6 := blk6.cell (o := 6) (by omega)
            have m7 := blk6.cell (o := 7) (by omega)
            have m8 := blk6.cell (o := 8) (by omega)
            have m9 := blk6.cell (o := 9) (by omega)
            have m10 := blk6.cell (o := 10) (by omega)
            have zR := blk6.frozen
            have lR := blk6.lt
            obtain ⟨ez, qz⟩ := Hsol.out.zero hS3 (by omega)
            subst ez qz
            have HS3 : Hid _ := hS3
            clear hS3
            have e11 := cells11 blk6 (.int .i64 0) (.int .i64 0) (.bool (okOf o3)) (.int .i64 (-1)) (.int .i64 (-1)) (.int .i64 (-1)) (.int .i64 (-1)) (.int .i64 (-1)) (.int .i64 (-1)) (.int .i64 (-1)) (.int .i64 (-1))
            have k11 := fr11 w6 hb (.int .i64 0) (.int .i64 0) (.bool (okOf o3)) (.int .i64 (-1)) (.int .i64 (-1)) (.int .i64 (-1)) (.int .i64 (-1)) (.int .i64 (-1)) (.int .i64 (-1)) (.int .i64 (-1)) (.int .i64 (-1))
            have F6 := ((HF4.out.drew).trans f6 (fun _ _ h => .inl h)).trans k11 (fun x hx e => by omega)
            have fd7 := (fd6.step (X' := fun c => X c ∨ c = hb) k11 (fun x hx => .inl (.inr hx)) (fun x hx => .inl hx)).le (show _ ≤ G + 300 * nx c by omega)
            have He11 : Hid _ := e11
            have HF6 : Hid _ := F6
            have Hfd7 : Hid _ := fd7
            clear e11 k11 F6 fd7 fd6 blk6
            rw [foundV_no]
            go_wp2_with fail
            go_roundg (s.size + 1 - nx c)
            case measure => omega
            case rel => exact ⟨nx c, l ++ [c], 0, 0, o3, by rw [Hv.out], by omega, ⟨HS3.out, by omega, He11.out, Hfd7.out, Hall2.out, Hascr.out, by simp; omega, fun hh => absurd rfl hh, fun _ => Hz0.out trivial, HF6.out⟩⟩
    · have t0 : (er == 0) = false := by simpa using he
      obtain ⟨e1, e2, e3⟩ := Herz.out he
      subst e1 e2 e3
      have hfd := (fnd.same (Fr.refl (fun _ => False) _).drew.drew).step (X' := X) (Fr.refl (fun _ => False) _) (fun _ h => h.elim) (fun c hc => .inl (.inl hc))
      have HE : Hid _ := he
      clear he
      go_wp2_with fail
      refine wp_region_text (by kernel_rfl) (by kernel_rfl) ?_
      go_wp2_with fail
      refine ⟨by kernel_rfl, ?_⟩
      go_wp2_with fail
      refine wp_region_text (by kernel_rfl) (by kernel_rfl) ?_
      go_wp2_with fail
      refine ⟨by kernel_rfl, ?_⟩
      go_wp2_with fail
      refine bodyPost_ret (v := .tuple #[.int .i64 er, .int .i64 q]) (by simp [results, Tryz.results61, go_sem]) rfl ?_
      exact ⟨er, q, [], rfl, .inl ⟨HE.out, rfl, rfl, rfl⟩, hfd.le (by omega), frr.drew.drew⟩
end Go.Proofs.Qxb6500283aGreat
