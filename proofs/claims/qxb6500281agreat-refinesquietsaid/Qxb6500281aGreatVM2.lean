/- The model machine: small functions. -/
import Derived.Test.Qxb6500281aGreatVM1
import Derived.Deep.LoopGhost
import Derived.BigQuiet
import Derived.BigRegion
namespace Go.Proofs.Qxb6500281aGreat
open Go Go.RowKit

def ME (w : World) (rn hm : Nat) (C : List Nat) (I : List Int) (V : Vs) (M : MS) (P : Nat → Prop) : Prop := ∃ col cv iv ov fv g, MR w rn hm C I V M col P cv iv ov fv g
def MZ (w : World) (rn hm : Nat) (C : List Nat) (I : List Int) (V' : Vs) (M' : MS) (P : Nat → Prop) (w' : World) : Prop := ME w' rn hm C I V' M' (Gw P w w') ∧ Fr P w w'
section
variable {w w' w1 : World} {rn hm : Nat} {C : List Nat} {I : List Int} {V V' : Vs} {M M' : MS} {col col' : Nat → Nat} {P P' F : Nat → Prop} {cv iv ov fv : Value} {g : Nat → Value} {f : Fm} {r : List Fm}
theorem MR.e (H : MR w rn hm C I V M col P cv iv ov fv g) : ME w rn hm C I V M P := ⟨_, _, _, _, _, _, H⟩
theorem ME.lt (H : ME w rn hm C I V M P) : ∀ c, P c → c < w.heap.size := by
  obtain ⟨_, _, _, _, _, _, H⟩ := H
  exact H.lt
theorem ME.same (H : ME w rn hm C I V M P) (k : Fr (fun _ => False) w w') : ME w' rn hm C I V M P := by
  obtain ⟨_, _, _, _, _, _, H⟩ := H
  exact (H.same k).e
theorem ME.up (H : ME w rn hm C I V M P) (h1 : ∀ c, P c → P' c) (h2 : ∀ c, P' c → c < w.heap.size) : ME w rn hm C I V M P' := by
  obtain ⟨_, _, _, _, _, _, H⟩ := H
  exact (H.up h1 h2).e
theorem gw_lt (h : ∀ c, P c → c < w.heap.size) (k : w.heap.size ≤ w'.heap.size) : ∀ c, Gw P w w' c → c < w'.heap.size := fun c hc => hc.elim (fun h' => Nat.lt_of_lt_of_le (h c h') k) (fun h' => h'.2)
/-- Nothing of the machine's was written. -/
theorem ME.z0 (H : ME w rn hm C I V M P) (k : Fr (fun _ => False) w w') : MZ w rn hm C I V M P w' :=
  ⟨(H.same k).up (fun _ h => .inl h) (gw_lt H.lt k.size), k.mono (fun _ _ h => h.elim)⟩
/-- One after the other. -/
theorem MZ.then (h1 : MZ w rn hm C I V M P w1) (h2 : MZ w1 rn hm C I V' M' (Gw P w w1) w') : MZ w rn hm C I V' M' P w' := by
  have k1 := h1.2.size
  have k2 := h2.2.size
  refine ⟨h2.1.up (fun c hc => ?_) (fun c hc => ?_), h1.2.trans h2.2 (fun c hc h => h.elim id (fun h => absurd h.1 (by omega)))⟩
  · rcases hc with (h | h) | h
    · exact .inl h
    · exact .inr ⟨h.1, by omega⟩
    · exact .inr ⟨by omega, h.2⟩
  · have := h2.1.lt
    rcases hc with h | h
    · exact this c (.inl (.inl h))
    · exact h.2
theorem MR.cl' (H : MR w rn hm C I V M col P cv iv ov fv g) {o : Nat} (ho : o < 12) : w.cell? ⟨rn, o, none⟩ = some (rC hm cv iv ov fv V o) := H.blk.cell ho
theorem MR.rlt (H : MR w rn hm C I V M col P cv iv ov fv g) : rn < w.heap.size := H.blk.lt
/-- A cell of the run's block is set. -/
theorem MR.z1 (H : MR w rn hm C I V M col P cv iv ov fv g) (k : Fr (fun c => c = rn) w w') (hb : Blk w' rn 12 (rC hm cv iv ov fv V')) (e1 : V'.fs = V.fs) (e2 : V'.out = V.out) : MZ w rn hm C I V' M P w' :=
  ⟨((H.turn k hb e1 e2).e).up (fun _ h => .inl h) (gw_lt H.lt k.size), k.mono (fun c _ e => by rw [e]; exact H.crn.2)⟩
theorem lt12 {o : Nat} (h : o < 12) : o = 0 ∨ o = 1 ∨ o = 2 ∨ o = 3 ∨ o = 4 ∨ o = 5 ∨ o = 6 ∨ o = 7 ∨ o = 8 ∨ o = 9 ∨ o = 10 ∨ o = 11 := by omega
theorem rC_en (x : Int) : ∀ o, o < 12 → upd (rC hm cv iv ov fv V) 8 (.int .i64 x) o = rC hm cv iv ov fv { V with en := x } o := fun o ho => by
  rcases lt12 ho with rfl | rfl | rfl | rfl | rfl | rfl | rfl | rfl | rfl | rfl | rfl | rfl <;> rfl
theorem rC_fuel (x : Int) : ∀ o, o < 12 → upd (rC hm cv iv ov fv V) 3 (.int .i64 x) o = rC hm cv iv ov fv { V with fuel := x } o := fun o ho => by
  rcases lt12 ho with rfl | rfl | rfl | rfl | rfl | rfl | rfl | rfl | rfl | rfl | rfl | rfl <;> rfl
theorem rC_ip (x : Nat) : ∀ o, o < 12 → upd (rC hm cv iv ov fv V) 2 (.int .i64 (x : Nat)) o = rC hm cv iv ov fv { V with ip := x } o := fun o ho => by
  rcases lt12 ho with rfl | rfl | rfl | rfl | rfl | rfl | rfl | rfl | rfl | rfl | rfl | rfl <;> rfl
theorem rC_pc (x : Nat) : ∀ o, o < 12 → upd (rC hm cv iv ov fv V) 6 (.int .i64 (x : Nat)) o = rC hm cv iv ov fv { V with pc := x } o := fun o ho => by
  rcases lt12 ho with rfl | rfl | rfl | rfl | rfl | rfl | rfl | rfl | rfl | rfl | rfl | rfl <;> rfl
theorem rC_rt (x : Int) : ∀ o, o < 12 → upd (rC hm cv iv ov fv V) 9 (.int .i64 x) o = rC hm cv iv ov fv { V with rt := x } o := fun o ho => by
  rcases lt12 ho with rfl | rfl | rfl | rfl | rfl | rfl | rfl | rfl | rfl | rfl | rfl | rfl <;> rfl
theorem rC_steps (x : Int) : ∀ o, o < 12 → upd (rC hm cv iv ov fv V) 10 (.int .i64 x) o = rC hm cv iv ov fv { V with steps := x } o := fun o ho => by
  rcases lt12 ho with rfl | rfl | rfl | rfl | rfl | rfl | rfl | rfl | rfl | rfl | rfl | rfl <;> rfl
theorem rC_most (x : Nat) : ∀ o, o < 12 → upd (rC hm cv iv ov fv V) 11 (.int .i64 (x : Nat)) o = rC hm cv iv ov fv { V with most := x } o := fun o ho => by
  rcases lt12 ho with rfl | rfl | rfl | rfl | rfl | rfl | rfl | rfl | rfl | rfl | rfl | rfl <;> rfl
theorem MR.s_en (H : MR w rn hm C I V M col P cv iv ov fv g) (x : Int) : MR (w.setCell ⟨rn, 8, none⟩ (.int .i64 x)) rn hm C I { V with en := x } M col P cv iv ov fv g := H.turn ((Fr.refl (fun c => c = rn) w).setC rn 8 _ (fun _ => rfl)) ((H.blk.set 8 _).congr (rC_en x)) rfl rfl
theorem MR.s_fuel (H : MR w rn hm C I V M col P cv iv ov fv g) (x : Int) : MR (w.setCell ⟨rn, 3, none⟩ (.int .i64 x)) rn hm C I { V with fuel := x } M col P cv iv ov fv g := H.turn ((Fr.refl (fun c => c = rn) w).setC rn 3 _ (fun _ => rfl)) ((H.blk.set 3 _).congr (rC_fuel x)) rfl rfl
theorem MR.s_ip (H : MR w rn hm C I V M col P cv iv ov fv g) (x : Nat) : MR (w.setCell ⟨rn, 2, none⟩ (.int .i64 (x : Nat))) rn hm C I { V with ip := x } M col P cv iv ov fv g := H.turn ((Fr.refl (fun c => c = rn) w).setC rn 2 _ (fun _ => rfl)) ((H.blk.set 2 _).congr (rC_ip x)) rfl rfl
theorem MR.s_pc (H : MR w rn hm C I V M col P cv iv ov fv g) (x : Nat) : MR (w.setCell ⟨rn, 6, none⟩ (.int .i64 (x : Nat))) rn hm C I { V with pc := x } M col P cv iv ov fv g := H.turn ((Fr.refl (fun c => c = rn) w).setC rn 6 _ (fun _ => rfl)) ((H.blk.set 6 _).congr (rC_pc x)) rfl rfl
theorem MR.s_rt (H : MR w rn hm C I V M col P cv iv ov fv g) (x : Int) : MR (w.setCell ⟨rn, 9, none⟩ (.int .i64 x)) rn hm C I { V with rt := x } M col P cv iv ov fv g := H.turn ((Fr.refl (fun c => c = rn) w).setC rn 9 _ (fun _ => rfl)) ((H.blk.set 9 _).congr (rC_rt x)) rfl rfl
theorem MR.s_steps (H : MR w rn hm C I V M col P cv iv ov fv g) (x : Int) : MR (w.setCell ⟨rn, 10, none⟩ (.int .i64 x)) rn hm C I { V with steps := x } M col P cv iv ov fv g := H.turn ((Fr.refl (fun c => c = rn) w).setC rn 10 _ (fun _ => rfl)) ((H.blk.set 10 _).congr (rC_steps x)) rfl rfl
theorem MR.s_most (H : MR w rn hm C I V M col P cv iv ov fv g) (x : Nat) : MR (w.setCell ⟨rn, 11, none⟩ (.int .i64 (x : Nat))) rn hm C I { V with most := x } M col P cv iv ov fv g := H.turn ((Fr.refl (fun c => c = rn) w).setC rn 11 _ (fun _ => rfl)) ((H.blk.set 11 _).congr (rC_most x)) rfl rfl
/-- Behind cells of the run's block: what a function answers. -/
theorem MR.zs (H : MR w rn hm C I V M col P cv iv ov fv g) (H' : MR w' rn hm C I V' M' col P cv iv ov fv g) (k : Fr (fun c => c = rn) w w') : MZ w rn hm C I V' M' P w' :=
  ⟨H'.e.up (fun _ h => .inl h) (gw_lt H.lt k.size), k.mono (fun c _ e => by rw [e]; exact H.crn.2)⟩
set_option maxRecDepth 100000 in
theorem topMF (H : MR w rn hm C I V M col P cv iv ov fv g) (hf : V.fs = f :: r) (h48 : r.length ≤ 48) : Calls Tryz.prog 85 #[.pointer (some ⟨rn, 0, none⟩)] w fun e w' => e = .returned (.int .i64 (r.length : Nat)) ∧ w' = w := by
  have c1 := H.cl' (o := 5) (by omega)
  have hlt := H.rlt
  obtain ⟨b, cap, e, h1, h2⟩ := H.fsl hf
  simp only [rC] at c1
  rw [e] at c1
  clear H h2 e hf
  go_enter Tryz.func85, Tryz.ntmps85
  go_wp2_with fail
  go_ret
  exact ⟨by simp, rfl⟩
def SpM (w : World) (rn hm : Nat) (C : List Nat) (I : List Int) (V : Vs) (M : MS) (col : Nat → Nat) (P : Nat → Prop) (cv iv ov fv : Value) (g : Nat → Value) (e : Ending) (w' : World) : Prop := (V.fuel ≤ 0 → e = .returned (.bool false) ∧ MR w' rn hm C I (V.die 22) M col P cv iv ov fv g) ∧ (¬ V.fuel ≤ 0 → e = .returned (.bool true) ∧ MR w' rn hm C I { V with fuel := V.fuel - 1 } M col P cv iv ov fv g) ∧ Fr (fun c => c = rn) w w'
set_option maxRecDepth 100000 in
theorem spendMF (H : MR w rn hm C I V M col P cv iv ov fv g) (hb : V.fuel ≤ 9223372036854775807) : Calls Tryz.prog 80 #[.pointer (some ⟨rn, 0, none⟩)] w (SpM w rn hm C I V M col P cv iv ov fv g) := by
  have c1 := H.cl' (o := 3) (by omega)
  have c2 := H.cl' (o := 8) (by omega)
  simp only [rC] at c1 c2
  have hlt := H.rlt
  have hz := H.blk.frozen
  by_cases h : V.fuel ≤ 0
  · have HK : Hid (_ ∧ _) := ⟨H.s_en 22, (Fr.refl (fun c => c = rn) w).setC rn 8 (.int .i64 22) (fun _ => rfl)⟩
    have Hh : Hid _ := h
    clear H
    go_enter Tryz.func80, Tryz.ntmps80
    go_wp2_with fail
    go_ret
    exact ⟨fun _ => ⟨rfl, HK.out.1⟩, fun hn => absurd Hh.out hn, HK.out.2⟩
  · have HK : Hid (_ ∧ _) := ⟨H.s_fuel (V.fuel - 1), (Fr.refl (fun c => c = rn) w).setC rn 3 (.int .i64 (V.fuel - 1)) (fun _ => rfl)⟩
    have Hh : Hid _ := h
    have h1 : 0 < V.fuel := by omega
    clear H h
    go_enter Tryz.func80, Tryz.ntmps80
    go_wp2_with fail
    go_ret
    exact ⟨fun hn => absurd hn Hh.out, fun _ => ⟨rfl, HK.out.1⟩, HK.out.2⟩
theorem FL.at : ∀ (fs : List Fm), FL w g fs → ∀ i, i < fs.length → ∃ f, fs[fs.length - 1 - i]? = some f ∧ FC w g i f
  | [], _, i, hi => absurd hi (Nat.not_lt_zero _)
  | f :: r, ⟨h1, h2⟩, i, hi => by
    have hl : (f :: r).length = r.length + 1 := rfl
    by_cases e : i = r.length
    · subst e
      exact ⟨f, by rw [hl, show r.length + 1 - 1 - r.length = 0 by omega]; rfl, h1⟩
    · obtain ⟨f', h3, h4⟩ := FL.at r h2 i (by omega)
      refine ⟨f', ?_, h4⟩
      rw [hl, show r.length + 1 - 1 - i = (r.length - 1 - i) + 1 by omega]
      exact h3
theorem used_drop {fs : List Fm} {k : Nat} {f : Fm} (h : fs[k]? = some f) : usedF (fs.drop k) = 3 + f.loc.length + f.ops.length + usedF (fs.drop (k + 1)) := by
  obtain ⟨h1, h2⟩ := List.getElem?_eq_some_iff.1 h
  rw [List.drop_eq_getElem_cons h1, h2]
  rfl
theorem used_drop_le : ∀ (fs : List Fm) (k : Nat), usedF (fs.drop k) ≤ usedF fs
  | [], k => by simp
  | f :: r, 0 => Nat.le_refl _
  | f :: r, k + 1 => by have := used_drop_le r k; simp only [List.drop_succ_cons, usedF]; omega
set_option maxRecDepth 100000 in
set_option maxHeartbeats 600000 in
theorem usedMF (H : MR w rn hm C I V M col P cv iv ov fv g) (h48 : usedF V.fs ≤ 48) : Calls Tryz.prog 81 #[.pointer (some ⟨rn, 0, none⟩)] w fun e w' => e = .returned (.int .i64 (usedF V.fs : Nat)) ∧ Fr (fun _ => False) w w' := by
  have c1 := H.cl' (o := 5) (by omega)
  have hlt := H.rlt
  have hl := lenUsed V.fs
  simp only [rC] at c1
  have HX : Hid _ := H
  obtain ⟨fa, fc, e, hfc⟩ : ∃ a c, fv = .slice a V.fs.length c ∧ V.fs.length ≤ c := by
    rcases H.fs with ⟨h1, h2⟩ | ⟨b, cap, h1, h2, _⟩
    · exact ⟨none, 0, by rw [h1, h2], by omega⟩
    · exact ⟨_, _, h1, h2⟩
  rw [e] at c1
  obtain ⟨n, hn⟩ : ∃ n, n = V.fs.length := ⟨_, rfl⟩
  rw [← hn] at c1 hfc
  have He : Hid _ := And.intro e (And.intro hn h48)
  have hn48 : n ≤ 48 := by omega
  clear H e hn hl
  go_enter Tryz.func81, Tryz.ntmps81
  go_wp2_with fail
  go_loopg [3, 5, 11] n (fun g' s3 _ s11 wr => ∃ i : Nat, s11 = .int .i64 i ∧ i + g' = n ∧ s3 = .int .i64 (usedF (V.fs.drop (n - i)) : Nat) ∧ Fr (fun _ => False) w wr)
  case atStart => exact ⟨0, rfl, by omega, by rw [Nat.sub_zero, He.out.2.1, List.drop_length]; rfl, Fr.refl _ _⟩
  case round =>
    obtain ⟨i, rfl, hig, rfl, hfr⟩ := hrel
    have hig' : i + gk = n := hig
    have H := HX.out.same hfr
    have hub := used_drop_le V.fs (n - i)
    have hub2 := He.out.2.2
    by_cases hi : i < n
    · obtain ⟨f, hf1, hf2⟩ := H.fr.at _ i (by have := He.out.2.1; omega)
      have hud := used_drop hf1
      have hnn := He.out.2.1
      rw [show V.fs.length - 1 - i + 1 = n - i by omega] at hud
      have hub3 := used_drop_le V.fs (V.fs.length - 1 - i)
      obtain ⟨b, cap, efv, hcap, hB⟩ : ∃ b cap, fv = .slice (some ⟨b, 0, none⟩) n cap ∧ n ≤ cap ∧ Blk wr b (cap * 5) g := by
        rcases H.fs with ⟨_, h⟩ | h
        · omega
        · rw [hnn]; exact h
      have e0 := He.out.1
      rw [efv] at e0
      injection e0 with e1 e2 e3
      have p0 := hB.cell (o := i * 5) (by omega)
      have p1 := hB.cell (o := i * 5 + 1) (by omega)
      have p2 := hB.cell (o := i * 5 + 2) (by omega)
      have p3 := hB.cell (o := i * 5 + 3) (by omega)
      have p4 := hB.cell (o := i * 5 + 4) (by omega)
      obtain ⟨la, lc, el, hlc⟩ := hf2.loc.sl
      obtain ⟨oa, oc, eo, hoc⟩ := hf2.ops.sl
      rw [show i * 5 = 5 * i by omega] at p0 p1 p2 p3 p4
      rw [hf2.ret] at p0
      rw [el] at p1
      rw [eo] at p2
      rw [hf2.rb] at p3
      rw [hf2.lr] at p4
      rw [show 5 * i = i * 5 by omega] at p0 p1 p2 p3 p4
      have hbl := hB.lt
      obtain ⟨ul, hul⟩ : ∃ ul, ul = usedF (V.fs.drop (n - i)) := ⟨_, rfl⟩
      obtain ⟨l1, hl1⟩ : ∃ l1, l1 = f.loc.length := ⟨_, rfl⟩
      obtain ⟨l2, hl2⟩ : ∃ l2, l2 = f.ops.length := ⟨_, rfl⟩
      rw [← hul] at hud hub ⊢
      rw [← hl1] at p1 hud
      rw [← hl2] at p2 hud
      have hsum : ul + (3 + l1 + l2) ≤ 48 := by omega
      have Hud : Hid _ := hud
      have hi' : (i : Int) < n := by omega
      subst e1
      clear H hud hf1 hf2 hub3 efv el eo hlc hoc hB hul hl1 hl2 hnn hub2 hub e2 e3
      go_wp2_with fail
      go_roundg (gk - 1)
      case measure => omega
      case rel =>
        refine ⟨i + 1, by simp, by omega, ?_, hfr.alloc _⟩
        have h1 := Hud.out
        have h2 := He.out.2.1
        rw [show n - (i + 1) = V.fs.length - 1 - i by omega, h1]
        congr 1
        omega
    · have hin : i = n := by omega
      clear H
      go_wp2_with fail
      go_ret
      refine ⟨?_, hfr⟩
      rw [hin, Nat.sub_self]
      rfl
end
end Go.Proofs.Qxb6500281aGreat
