/- The law: Gauges, Sound; what the walk holds. -/
import Derived.Test.Qxb6500281aGreatVL5
import Derived.Test.Qxb6500281aGreatVR20
namespace Go.Proofs.Qxb6500281aGreat
open Go Go.RowKit

section
variable {w w' : World} {A : Va} {S S' : HS} {s s' : Int} {t t' : Nat} {cv iv cv' iv' xv yv : Value} {sm tm : Int} {M M' : MS} {m hm : Nat} {O F : Nat → Prop}
theorem RI.le (R : RI w A S s t cv iv) : t ≤ 48 := by
  obtain ⟨C, I, V, st, G, nf, RX, h1, h2, h3, h4, _⟩ := R.ex
  omega
set_option maxRecDepth 100000 in
theorem gaugesF (R : RI w A S s t cv iv) (X : MX w m hm M sm tm O) (idle : Bool) (hi : idle = true → s = 0 ∧ t = 0) (hn : idle = false → s = sm ∧ ((t : Nat) : Int) = tm) :
    Calls Tryz.prog 21 #[.pointer (some ⟨A.m, 0, none⟩), .pointer (some ⟨m, 0, none⟩), .bool idle] w fun e w' => e = .returned (.bool true) ∧ w' = w := by
  have h48 := R.le
  obtain ⟨C, I, V, st, G, nf, RX, h1, h2, _⟩ := R.ex
  have q1 := stepsF RX
  have q2 := mostF RX
  rw [h1] at q1
  rw [h2] at q2
  have q3 := stepsMF X
  have q4 := maxSpMF X
  cases idle with
  | true =>
    obtain ⟨rfl, rfl⟩ := hi rfl
    clear R RX X hi hn h1 h2
    go_enter Tryz.func21, Tryz.ntmps21
    go_wp2_with fail
    refine q1.mono ?_
    rintro v w1 ⟨rfl, rfl⟩
    go_wp2_with fail
    refine q2.mono ?_
    rintro v w2 ⟨rfl, rfl⟩
    go_wp2_with fail
    go_ret
    exact ⟨by simp, rfl⟩
  | false =>
    obtain ⟨rfl, rfl⟩ := hn rfl
    have y1 : (s == s) = true := by simp
    have y2 : (((t : Nat) : Int) == ((t : Nat) : Int)) = true := by simp
    have y3 : decide (((t : Nat) : Int) ≤ 48) = true := decide_eq_true (by omega)
    clear R RX X hi hn h1 h2
    go_enter Tryz.func21, Tryz.ntmps21
    go_wp2_with fail
    refine q1.mono ?_
    rintro v w1 ⟨rfl, rfl⟩
    go_wp2_with fail
    refine q2.mono ?_
    rintro v w2 ⟨rfl, rfl⟩
    go_wp2_with fail
    refine q3.mono ?_
    rintro v w3 ⟨rfl, rfl⟩
    go_wp2_with fail
    refine q4.mono ?_
    rintro v w4 ⟨rfl, rfl⟩
    go_wp2_with fail
    go_ret
    exact ⟨by simp, rfl⟩
set_option maxRecDepth 100000 in
theorem soundF (R : RI w A S s t cv iv) (X : MX w m hm M sm tm O) (mi : MInv M) (h24 : M.rt.length ≤ 24) (idle : Bool) (hi : idle = true → s = 0 ∧ t = 0) (hn : idle = false → Rel S M ∧ s = sm ∧ ((t : Nat) : Int) = tm) :
    Calls Tryz.prog 10 #[.agg #[.pointer (some ⟨A.h, 0, none⟩)], .pointer (some ⟨A.m, 0, none⟩), .pointer (some ⟨m, 0, none⟩), .bool idle] w fun e w' => e = .returned (.bool true) ∧ Fr (fun _ => False) w w' := by
  have k0 := (Fr.refl (fun _ => False) w).alloc (.cells #[.pointer (some ⟨A.h, 0, none⟩)] 29)
  have B0 := Blk.new w #[.pointer (some ⟨A.h, 0, none⟩)] 29 (fun _ => .pointer (some ⟨A.h, 0, none⟩)) (fun o ho => by
    have ho : o < 1 := by simpa using ho
    obtain rfl : o = 0 := by omega
    rfl)
  have R0 := R.same k0
  obtain ⟨C, I, V, st, G, nf, RX, h1, h2, h3, h4, h5, h6, h7, h8⟩ := R0.ex
  obtain ⟨Mx, hRel⟩ := R.rel
  have q1 := checkF RX h3 h4 h5 h6 h7 hRel.top h8
  have HK : Hid _ := And.intro k0 (And.intro B0 (And.intro R0 X))
  have HR : Hid _ := hRel
  have HI : Hid _ := And.intro hi (And.intro hn (And.intro mi h24))
  clear k0 B0 R0 RX R X hRel hi hn mi h24 h1 h2 h3 h4 h5 h6 h7 h8
  go_enter Tryz.func10, Tryz.ntmps10
  go_wp2_with fail
  refine q1.mono ?_
  rintro v w1 ⟨rfl, k1⟩
  clear q1
  obtain ⟨k0, B0, R0, X⟩ := HK.out
  have R1 := R0.same k1
  have X1 := (X.same k0).same k1
  have q2 := gaugesF R1 X1 idle HI.out.1 (fun h => (HI.out.2.1 h).2)
  have H1 : Hid _ := And.intro (k0.trans k1 (fun _ _ h => h)) (And.intro (B0.frame k1 (fun h => h)) (And.intro R1 X1))
  clear k0 B0 R0 X R1 X1 k1
  go_wp2_with fail
  refine q2.mono ?_
  rintro v w1 ⟨rfl, rfl⟩
  clear q2
  cases idle with
  | true =>
    go_wp2_with fail
    go_ret
    exact ⟨rfl, H1.out.1⟩
  | false =>
    obtain ⟨kw, B1, R1, X1⟩ := H1.out
    obtain ⟨hRel, _⟩ := HI.out.2.1 rfl
    obtain ⟨C', I', V', st', G', nf', RX, _⟩ := R1.ex
    obtain ⟨P, os, hI, _⟩ := hRel.all
    have c0 := B1.cell (o := 0) (by simp)
    have bl := B1.lt
    have q3 := dumpBF RX.hm hI
    have dl := hI.dlen
    have HX : Hid _ := And.intro kw (And.intro X1 (And.intro hRel dl))
    clear kw B1 R1 X1 RX hRel hI dl
    go_wp2_with fail
    refine q3.mono ?_
    rintro v w2 ⟨v1, rfl, D1, k2⟩
    obtain ⟨b1, g1, rfl, hb1, hg1⟩ := D1
    have HD1 : Hid (LVi w2 (.slice (some ⟨b1, 0, none⟩) S.gh.dump.length S.gh.dump.length) S.gh.dump) := ⟨b1, g1, rfl, hb1, hg1⟩
    obtain ⟨kw, X1, hRel, dl⟩ := HX.out
    have q4 := dumpXF (X1.same k2) HI.out.2.2.1 HI.out.2.2.2
    have HK2 : Hid _ := kw.trans k2 (fun _ _ h => h)
    clear hb1 hg1 q3 kw X1 hRel dl k2 c0 bl
    go_wp2_with fail
    refine q4.mono ?_
    rintro v w3 ⟨v2, rfl, D2, k3⟩
    have hd := HX.out.2.2.1.dumps
    rw [← hd] at D2
    have q5 := sameInts ((HD1.out.frame k3 (fun _ _ h => h)).ki) D2.ki HX.out.2.2.2.2
    obtain ⟨b2, g2, rfl, hb2, hg2⟩ := D2
    have HK3 : Hid _ := HK2.out.trans k3 (fun _ _ h => h)
    clear hb2 hg2 q4 hd k3
    go_wp2_with fail
    refine q5.mono ?_
    rintro v w4 ⟨rfl, k4⟩
    go_wp2_with fail
    go_ret
    exact ⟨rfl, HK3.out.trans k4 (fun _ _ h => h)⟩
end
end Go.Proofs.Qxb6500281aGreat
