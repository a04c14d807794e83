/- The code generator: lands, starts, jumpsFine. -/
import Derived.Test.Qxb6500277aGreatGK2
import Derived.Test.Qxb6500277aGreatGE21
import Derived.Test.Qxb6500277aGreatVR5
import Derived.Deep.LoopGhost
namespace Go.Proofs.Qxb6500277aGreat
open Go Go.RowKit

/-- The marks of the instructions' starts below pc. -/
def MkS (w : World) (ab n : Nat) (C : List Nat) (pc : Nat) : Prop := ∃ f, Blk w ab n f ∧ ∀ i, i < n → ∃ β : Bool, f i = .bool β ∧ (β = true ↔ ChA C i ∧ i < pc)
theorem MkS.frame {w w' : World} {ab n pc : Nat} {C : List Nat} {F : Nat → Prop} (h : MkS w ab n C pc) (k : Fr F w w') (hF : ¬ F ab) : MkS w' ab n C pc := by
  obtain ⟨f, h1, h2⟩ := h
  exact ⟨f, h1.frame k hF, h2⟩
set_option maxRecDepth 100000 in
theorem landsK {w : World} {ab n : Nat} {C : List Nat} (h : MkS w ab n C n) (t : Nat) (ht : t < n) (hc : ChA C t) : Calls Tryz.prog 44 #[.slice (some ⟨ab, 0, none⟩) n n, .int .i64 (t : Nat)] w fun e w' => e = .returned (.bool true) ∧ w' = w := by
  obtain ⟨f, h1, h2⟩ := h
  obtain ⟨β, e, hb⟩ := h2 t ht
  have hβ : β = true := hb.2 ⟨hc, ht⟩
  have c0 := h1.cell ht
  rw [e, hβ] at c0
  have hlt := h1.lt
  have z1 : decide ((t : Int) ≥ 0) = true := decide_eq_true (by omega)
  have z2 : decide ((0 : Int) ≤ t) = true := decide_eq_true (by omega)
  have z3 : decide ((t : Int) < (n : Nat)) = true := decide_eq_true (by omega)
  clear h1 h2 e hb hβ hc
  go_enter Tryz.func44, Tryz.ntmps44
  go_wp2_with fail
  go_ret
  exact ⟨rfl, rfl⟩
set_option maxRecDepth 100000 in
set_option maxHeartbeats 1000000 in
theorem u16K {w : World} {cv : Value} {C : List Nat} (h : BAt w cv C) (hb : ∀ i, byteAt C i < 256) (hl : C.length ≤ 4096) (i : Nat) (hi : i ≤ 100000) : Calls Tryz.prog 43 #[cv, .int .i64 (i : Nat)] w fun e w' => ∃ x : Nat, e = .returned (.int .i64 (x : Nat)) ∧ (i + 2 ≤ C.length → x = u16V C i) ∧ ∃ m, w' = w.drewN m := by
  by_cases h2 : i + 2 ≤ C.length
  · refine (u16F h hb hl i h2).mono ?_
    rintro e w' ⟨rfl, h3⟩
    exact ⟨_, rfl, fun _ => rfl, h3⟩
  · obtain ⟨ca, cc, rfl, _⟩ := h.sl
    have z1 : decide ((i : Int) < 0) = false := decide_eq_false (by omega)
    have z2 : decide ((i : Int) > (C.length : Int) - 2) = true := decide_eq_true (by omega)
    have z3 : decide ((C.length : Int) - 2 < (i : Int)) = true := decide_eq_true (by omega)
    have HH : Hid (True ∧ _) := ⟨trivial, h2⟩
    clear h2 h hb
    go_enter Tryz.func43, Tryz.ntmps43
    go_wp2_with fail
    go_ret
    exact ⟨0, rfl, fun h => absurd h HH.out.2, 0, rfl⟩
/-- What Check wants, of the buffers. -/
structure CkB (B : Gb) : Prop where
  ho : B.holes = []
  le : B.code.length ≤ 3000
  by' : ∀ i, byteAt B.code i < 256
  fin : ∀ pc, pc < B.code.length → ChA B.code pc → Fin1 B.code pc
  en' : ChA B.code B.code.length
set_option maxRecDepth 100000 in
set_option maxHeartbeats 2000000 in
theorem startsK {w : World} {g : Nat} {P : Nat → Prop} {hd : Nat → Value} {B : Gb} (h : GX w g P hd B) (K : CkB B) : Calls Tryz.prog 27 #[.pointer (some ⟨g, 0, none⟩)] w fun e w' => e = .returned (.tuple #[.slice (some ⟨w.heap.size, 0, none⟩) B.code.length B.code.length, .bool true]) ∧ MkS w' w.heap.size B.code.length B.code B.code.length ∧ Fr (fun _ => False) w w' := by
  have hP := h.lt
  obtain ⟨cv, hv, xv, ev, col, H⟩ := h
  have c12 : w.cell? ⟨g, 12, none⟩ = some cv := H.cl (o := 12) (by omega)
  have hlt := H.glt
  obtain ⟨ca, cc, hce, hcc⟩ := H.code.sl
  rw [hce] at c12
  have hle := K.le
  have HH : Hid (True ∧ _) := ⟨trivial, And.intro H (And.intro K hce)⟩
  obtain ⟨n, hn⟩ : ∃ n, n = B.code.length := ⟨_, rfl⟩
  have Hn : Hid (True ∧ _) := ⟨trivial, hn⟩
  rw [← hn] at c12 hle
  rw [← hn]
  clear H K hce hn hcc
  go_enter Tryz.func27, Tryz.ntmps27
  go_wp2_with (
    refine wpList_makeB (w := w) (by rfl) 80 _ _ (by rfl) 4 1 1 (.bool false) n (by rfl) (by rfl) Tryz.underlying80 (by kernel_rfl) (by kernel_rfl) (by kernel_rfl) (by omega) (by omega) ?_
    intro w1 F1 s1 B1
    rw [Nat.mul_one] at B1
    have HF1 : Hid (True ∧ _) := ⟨trivial, And.intro F1 (And.intro B1 s1)⟩
    clear F1 B1 s1 c12 hlt)
  obtain ⟨ab, hab⟩ : ∃ ab, ab = w.heap.size := ⟨_, rfl⟩
  rw [← hab]
  obtain ⟨_, F1, B1, s1⟩ := HF1.out
  rw [← hab] at B1
  have Hab : Hid (True ∧ _) := ⟨trivial, And.intro hab s1⟩
  have M1 : MkS w1 ab n B.code 0 := ⟨_, B1, fun i hi => ⟨false, by show (Value.bool false).cells[i % 1]! = _; rw [Nat.mod_one]; rfl, by simp⟩⟩
  have F1' : Fr (fun b => b = ab) w1 w1 := Fr.refl _ _
  clear HF1
  have HF1 : Hid (True ∧ _) := ⟨trivial, And.intro F1 B1⟩
  clear B1 F1 hab s1
  go_loopg [5] n (fun gm pv wr => ∃ pc : Nat, pv = .int .i64 (pc : Nat) ∧ pc ≤ n ∧ pc + gm = n ∧ ChA B.code pc ∧ MkS wr ab n B.code pc ∧ Fr (fun b => b = ab) w1 wr)
  case atStart => exact ⟨0, rfl, by omega, by omega, ChA.zero _, M1, F1'⟩
  case round =>
    obtain ⟨pc, rfl, hpn, hg, hch, M, Fw⟩ := hrel
    have hg' : pc + gk = n := hg
    clear hg M1 F1'
    obtain ⟨_, H, K, hce⟩ := HH.out
    obtain ⟨_, hn⟩ := Hn.out
    obtain ⟨_, F1, B1⟩ := HF1.out
    obtain ⟨_, hab, s1⟩ := Hab.out
    have hPab : ∀ b, P b → ¬ b = ab := fun b hb e => by have := hP b hb; omega
    have Hr := (H.same F1).frame Fw hPab
    have c12 : wr.cell? ⟨g, 12, none⟩ = some cv := Hr.cl (o := 12) (by omega)
    rw [hce, ← hn] at c12
    have hlt := Hr.glt
    by_cases hp : pc < n
    · have z0 : decide ((pc : Int) < (n : Nat)) = true := decide_eq_true (by omega)
      have hfin := K.fin pc (by omega) hch
      obtain ⟨cb, cc', ecv, hcl, hcs⟩ := Hr.code.all (by omega)
      have c0 := hcs pc (by omega)
      have hb6 := K.by' pc
      have q := fun w => opArgsF (byteAt B.code pc) hb6 w
      obtain ⟨ka, hka⟩ : ∃ ka : Nat, opArgs (byteAt B.code pc) = (ka : Nat) := ⟨(opArgs (byteAt B.code pc)).toNat, by rw [Int.toNat_of_nonneg hfin.op]⟩
      have hnx : nxt B.code pc = pc + 1 + ka := by unfold nxt; rw [hka]; simp
      have hwh := hfin.wh
      rw [hnx, ← hn] at hwh
      rw [hka] at q
      have hnc := hch.next
      rw [hnx] at hnc
      rw [ecv, ← hn] at hce
      injection hce with e1 e2 e3
      subst e1
      subst e3
      obtain ⟨f, h1, h2⟩ := M
      obtain ⟨β, eβ, hβ⟩ := h2 pc hp
      have d0 := h1.cell hp
      rw [eβ] at d0
      have hzA := h1.frozen
      have hlA := h1.lt
      have z1 : decide ((ka : Int) < 0) = false := decide_eq_false (by omega)
      have z2 : decide ((pc : Int) + 1 + ka > (n : Nat)) = false := decide_eq_false (by omega)
      have z3 : decide (((n : Nat) : Int) < pc + 1 + ka) = false := decide_eq_false (by omega)
      have HQ : Hid (True ∧ _) := ⟨trivial, And.intro hnc (And.intro h1 (And.intro h2 (And.intro Fw (And.intro hch hnx))))⟩
      generalize byteAt B.code pc = op at *
      clear hnc h1 h2 Fw hch hfin H K Hr hcs hnx hka hn F1 B1 hab s1 hPab ecv e2 eβ hβ
      go_wp2_with fail
      refine (q _).mono ?_
      rintro v w5 ⟨rfl, hw5⟩
      subst w5
      clear q
      go_wp2_with fail
      go_roundg (n - (pc + 1 + ka))
      case measure => omega
      case rel =>
        obtain ⟨_, hnc, h1, h2, Fw, hch, hnx⟩ := HQ.out
        refine ⟨pc + 1 + ka, by simp, hwh, by omega, hnc, ⟨_, h1.set pc (.bool true), fun i hi => ?_⟩, Fw.setC ab pc _ fun _ => rfl⟩
        obtain ⟨β, e, hβ⟩ := h2 i hi
        by_cases ei : i = pc
        · subst ei
          exact ⟨true, by simp [upd], by simp only [true_iff]; exact ⟨hch, by omega⟩⟩
        · refine ⟨β, by simp [upd, ei, e], hβ.trans ⟨fun x => ⟨x.1, by omega⟩, fun x => ⟨x.1, ?_⟩⟩⟩
          by_cases hlt' : i < pc
          · exact hlt'
          · exact absurd (hch.one x.1 (by omega) (by rw [hnx]; exact x.2)) ei
    · have z0 : decide ((pc : Int) < (n : Nat)) = false := decide_eq_false (by omega)
      have HQ : Hid (True ∧ _) := ⟨trivial, And.intro M (And.intro Fw (And.intro F1 s1))⟩
      obtain rfl : pc = n := by omega
      clear M Fw F1 B1 H K Hr hn hab s1 hPab hch
      go_wp2_with fail
      go_ret2
      obtain ⟨_, M, Fw, F1, s1⟩ := HQ.out
      obtain ⟨_, hab, _⟩ := Hab.out
      rw [← hab]
      exact ⟨rfl, M, F1.trans Fw fun b hb e => by omega⟩
end Go.Proofs.Qxb6500277aGreat
