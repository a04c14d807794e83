/- The model's child and option, from build. -/
import Derived.Test.Qxb6500283aGreatM5
import Derived.Test.Qxb6500283aGreatS6
namespace Go.Proofs.Qxb6500283aGreat
open Go Go.RowKit

/-- A function of the model's that lays a run. -/
def RunP (w : World) (r bk cp : Nat) (y g : Int) (ns out : List Nd) (OB : Nat → Prop) (f : Run) (v : Ending) (w' : World) : Prop := ∃ u : Nat, v = .returned (.int .i64 (u : Nat)) ∧ u + 1 = out.length + (f 0).length ∧ RM w' r bk cp y g ns (out ++ f out.length) (Up OB w) ∧ Fr (InR r OB) w w'
def RunC (fn : Nat) (ns : List Nd) (bk cp : Nat) (y g : Int) (A : Nat) (f : Run) : Prop := ∀ (w : World) (r : Nat) (out : List Nd) (OB : Nat → Prop), RM w r bk cp y g ns out OB → out.length + (f 0).length ≤ 31 → Calls Tryz.prog fn #[.pointer (some ⟨r, 0, none⟩), .int .i64 (A : Nat)] w (RunP w r bk cp y g ns out OB f)
theorem ndV_nev : ndV (leafNd 1 noP) = .agg #[.int .i64 1, .int .i64 (-1), .int .i64 (-1), .int .i64 0, .int .i64 0, .int .i64 0, .bool false, .int .u64 0, .int .u64 0, .int .u64 0, .int .u64 0] := by simp [ndV, leafNd, wd_zero]
set_option maxRecDepth 100000 in
set_option maxHeartbeats 4000000 in
theorem childM_any {ns : List Nd} {bk cp : Nat} {y g : Int} {A : Nat} {z : SZ} {f : Run} (hS : ShC ns bk cp y g A z.1) (h3 : z.1 ≤ 2) (hB : z.1 = 2 → RunC 105 ns bk cp y g A f) : RunC 81 ns bk cp y g A (chdW z f) := by
  intro w r out OB hM hlen
  have hl31 : out.length ≤ 31 := by omega
  obtain ⟨c0, c1, c2, c3, c4, hN, hrl, hbr⟩ := hM.cells
  obtain ⟨s, t⟩ := z
  simp only at hS h3 hB
  rcases three h3 with rfl | rfl | rfl
  · have e : chdW (0, t) f = fun _ => [leafNd 0 noP] := by funext b; simp [chdW]
    rw [e] at hlen ⊢
    clear hB e
    go_enter Tryz.func81, Tryz.ntmps81
    go_wp2_with fail
    refine (hS _ hN).mono ?_
    rintro v w1 ⟨rfl, f1⟩
    have hM1 := hM.idle f1
    go_wp2_with fail
    rw [← ndV_emp]
    refine (addC_any (leafNd 0 noP) hM1 hl31).mono ?_
    rintro v w2 ⟨rfl, hM2, f2⟩
    go_wp2_with fail
    go_ret
    exact ⟨out.length, rfl, rfl, hM2.mono (fun b h => h.elim .inl (fun h => .inr (Nat.le_trans f1.size h))), (f1.mono (fun _ _ h => h.elim)).trans f2 (fun _ _ h => h)⟩
  · have e : chdW (1, t) f = fun _ => [leafNd 1 noP] := by funext b; simp [chdW]
    rw [e] at hlen ⊢
    clear hB e
    go_enter Tryz.func81, Tryz.ntmps81
    go_wp2_with fail
    refine (hS _ hN).mono ?_
    rintro v w1 ⟨rfl, f1⟩
    have hM1 := hM.idle f1
    go_wp2_with fail
    rw [← ndV_nev]
    refine (addC_any (leafNd 1 noP) hM1 hl31).mono ?_
    rintro v w2 ⟨rfl, hM2, f2⟩
    go_wp2_with fail
    go_ret
    exact ⟨out.length, rfl, rfl, hM2.mono (fun b h => h.elim .inl (fun h => .inr (Nat.le_trans f1.size h))), (f1.mono (fun _ _ h => h.elim)).trans f2 (fun _ _ h => h)⟩
  · have e : chdW (2, t) f = f := by funext b; simp [chdW]
    rw [e] at hlen ⊢
    have hB2 := hB rfl
    clear hB e
    go_enter Tryz.func81, Tryz.ntmps81
    go_wp2_with fail
    refine (hS _ hN).mono ?_
    rintro v w1 ⟨rfl, f1⟩
    have hM1 := hM.idle f1
    go_wp2_with fail
    refine (hB2 _ _ _ _ hM1 hlen).mono ?_
    rintro v w2 ⟨u, rfl, hu, hM2, f2⟩
    have Hu : Hid _ := hu
    clear hu
    go_wp2_with fail
    go_ret
    exact ⟨u, rfl, Hu.out, hM2.mono (fun b h => h.elim .inl (fun h => .inr (Nat.le_trans f1.size h))), (f1.mono (fun _ _ h => h.elim)).trans f2 (fun _ _ h => h)⟩
end Go.Proofs.Qxb6500283aGreat
