/- The definitional interpreter: push, spend, heapEnd, b2i. -/
import Derived.Test.Qxb6500277aGreatGM1
namespace Go.Proofs.Qxb6500277aGreat
open Go Go.RowKit

/-- What a function of the interpreter leaves. -/
def Ao (G : Gmx) (w : World) (Q : Nat → Prop) (s : Ss) (en : Int) (w' : World) : Prop := RM w' G s en (Gw Q w w') ∧ Fr Q w w'
/-- What stands between two of them. -/
def Mm (G : Gmx) (w0 : World) (Q : Nat → Prop) (w : World) (s : Ss) (en : Int) : Prop := RM w G s en (Gw Q w0 w) ∧ Fr Q w0 w ∧ ∀ b, Q b → b < w0.heap.size
section
variable {w w' w0 w1 : World} {G : Gmx} {s s' : Ss} {en en' : Int} {Q O : Nat → Prop} {ov : Value}
theorem RM.gsb (H : RM w G s en Q) : ∀ b, stB G b → ¬ Gw Q w w' b := fun b hb h => h.elim (H.sb b hb).1 fun h => by have := (H.sb b hb).2; have := h.1; omega
theorem Mm.nil (H : RM w G s en Q) : Mm G w Q w s en := ⟨H.up (fun _ hb => .inl hb) (fun b hb => hb.elim (H.lt b) fun h => h.2) H.gsb, Fr.refl _ _, H.lt⟩
theorem Mm.up (h : Mm G w0 Q w s en) (k : RM w' G s' en' (Gw (Gw Q w0 w) w w')) (f : Fr (Gw Q w0 w) w w') : Mm G w0 Q w' s' en' := by
  refine ⟨k.up (Gw.gw h.2.1.size f.size) (fun b hb => hb.elim (fun x => Nat.lt_of_lt_of_le (h.2.2 b x) (Nat.le_trans h.2.1.size f.size)) fun x => x.2) (fun b hb hq => ?_), h.2.1.trans f (fun i hi hb => hb.elim id (fun h => by have := h.1; omega)), h.2.2⟩
  have q := k.sb b hb
  have r := h.1.sb b hb
  rcases hq with hq | hq
  · exact r.1 (.inl hq)
  · by_cases hl : b < w.heap.size
    · exact r.1 (.inr ⟨hq.1, hl⟩)
    · exact hl r.2
theorem Mm.then (h : Mm G w0 Q w s en) (k : Ao G w (Gw Q w0 w) s' en' w') : Mm G w0 Q w' s' en' := h.up k.1 k.2
theorem Mm.put (h : Mm G w0 Q w s en) (k : RM w' G s' en' (Gw Q w0 w)) (f : Fr (Gw Q w0 w) w w') : Mm G w0 Q w' s' en' := by
  refine h.up (k.up (fun _ hb => .inl hb) (fun b hb => hb.elim (k.lt b) fun h => h.2) fun b hb hq => ?_) f
  rcases hq with hq | hq
  · exact (k.sb b hb).1 hq
  · have := (h.1.sb b hb).2
    have := hq.1
    omega
theorem Mm.same (h : Mm G w0 Q w s en) (k : Fr (fun _ => False) w w') : Mm G w0 Q w' s en := h.put (h.1.same k) (k.mono fun _ _ h => h.elim)
theorem Mm.ret (h : Mm G w0 Q w s en) : Ao G w0 Q s en w := ⟨h.1, h.2.1⟩
theorem Mm.re (h : Mm G w0 Q w s en) (h1 : s'.ip = s.ip) (h2 : s'.fuel = s.fuel) (h3 : s'.us = s.us) (h4 : s'.M = s.M) (h5 : s'.out = s.out) : Mm G w0 Q w s' en := ⟨h.1.re h1 h2 h3 h4 h5, h.2⟩
theorem RMv.fr1 (H : RMv w G s en Q ov O) (o : Nat) (x : Value) : Fr Q w (w.setCell ⟨G.r, o, none⟩ x) := (Fr.refl Q w).setC G.r o x fun _ => H.qr
theorem Ao.put (H : RM w G s en Q) (k : RM w' G s' en' Q) (f : Fr Q w w') : Ao G w Q s' en' w' := ⟨k.up (fun _ hb => .inl hb) (fun b hb => hb.elim (k.lt b) fun h => h.2) (fun b hb hq => by
  rcases hq with hq | hq
  · exact (k.sb b hb).1 hq
  · have := (H.sb b hb).2
    have := hq.1
    omega), f⟩
end
section
variable {w w' : World} {G : Gmx} {s : Ss} {en : Int} {Q : Nat → Prop}
set_option maxRecDepth 100000 in
theorem pushK (H : RM w G s en Q) (h0 : 0 ≤ s.us) (h1 : s.us ≤ 48) : Calls Tryz.prog 58 #[.pointer (some ⟨G.r, 0, none⟩)] w fun e w' => e = .returned (.tuple #[]) ∧ ((48 ≤ s.us ∧ Ao G w Q s 29 w') ∨ (s.us < 48 ∧ Ao G w Q { s with us := s.us + 1 } en w')) := by
  obtain ⟨ov, O, H⟩ := H
  have c15 := H.c15
  have c17 := H.c17
  have hlt := H.rlt
  have hz := H.blk.frozen
  by_cases h : 48 ≤ s.us
  · have z1 : decide (s.us ≥ 48) = true := decide_eq_true (by omega)
    have z2 : decide ((48 : Int) ≤ s.us) = true := decide_eq_true (by omega)
    have HH : Hid (True ∧ _) := ⟨trivial, And.intro H h⟩
    clear H h h0 h1
    go_enter Tryz.func58, Tryz.ntmps58
    go_wp2_with fail
    first | go_end0 | ((try simp only [Exit.inBlock, Exit.then]); refine bodyPost_ret (results_none rfl _ _ _) rfl ?_)
    obtain ⟨_, H, h⟩ := HH.out
    exact ⟨rfl, .inl ⟨h, Ao.put H.x (H.setE 29).x (H.fr1 _ _)⟩⟩
  · have z1 : decide (s.us ≥ 48) = false := decide_eq_false (by omega)
    have z2 : decide ((48 : Int) ≤ s.us) = false := decide_eq_false (by omega)
    have e1 : wrap64 (s.us + 1) = s.us + 1 := by simp only [wrap64]; omega
    have HH : Hid (True ∧ _) := ⟨trivial, And.intro H h⟩
    clear H h
    go_enter Tryz.func58, Tryz.ntmps58
    go_wp2_with fail
    first | go_end0 | ((try simp only [Exit.inBlock, Exit.then]); refine bodyPost_ret (results_none rfl _ _ _) rfl ?_)
    obtain ⟨_, H, h⟩ := HH.out
    exact ⟨rfl, .inr ⟨by omega, Ao.put H.x (H.setU (s.us + 1)).x (H.fr1 _ _)⟩⟩
set_option maxRecDepth 100000 in
theorem spendK (H : RM w G s en Q) (h0 : -9223372036854775808 ≤ s.fuel) (h1 : s.fuel ≤ 9223372036854775807) : Calls Tryz.prog 54 #[.pointer (some ⟨G.r, 0, none⟩)] w fun e w' => e = .returned (.tuple #[]) ∧ ((s.fuel ≤ 0 ∧ Ao G w Q s 22 w') ∨ (0 < s.fuel ∧ Ao G w Q { s with fuel := s.fuel - 1 } en w')) := by
  obtain ⟨ov, O, H⟩ := H
  have c13 := H.c13
  have c17 := H.c17
  have hlt := H.rlt
  have hz := H.blk.frozen
  by_cases h : s.fuel ≤ 0
  · have z1 : decide (s.fuel ≤ 0) = true := decide_eq_true h
    have HH : Hid (True ∧ _) := ⟨trivial, And.intro H h⟩
    clear H h h0 h1
    go_enter Tryz.func54, Tryz.ntmps54
    go_wp2_with fail
    first | go_end0 | ((try simp only [Exit.inBlock, Exit.then]); refine bodyPost_ret (results_none rfl _ _ _) rfl ?_)
    obtain ⟨_, H, h⟩ := HH.out
    exact ⟨rfl, .inl ⟨h, Ao.put H.x (H.setE 22).x (H.fr1 _ _)⟩⟩
  · have z1 : decide (s.fuel ≤ 0) = false := decide_eq_false h
    have e1 : wrap64 (s.fuel - 1) = s.fuel - 1 := by simp only [wrap64]; omega
    have HH : Hid (True ∧ _) := ⟨trivial, And.intro H h⟩
    clear H h
    go_enter Tryz.func54, Tryz.ntmps54
    go_wp2_with fail
    first | go_end0 | ((try simp only [Exit.inBlock, Exit.then]); refine bodyPost_ret (results_none rfl _ _ _) rfl ?_)
    obtain ⟨_, H, h⟩ := HH.out
    exact ⟨rfl, .inr ⟨by omega, Ao.put H.x (H.setF (s.fuel - 1)).x (H.fr1 _ _)⟩⟩
set_option maxRecDepth 100000 in
set_option maxHeartbeats 1000000 in
theorem heapEndK (H : RM w G s en Q) (e : Int) : Calls Tryz.prog 57 #[.pointer (some ⟨G.r, 0, none⟩), .int .i64 e] w fun v w' => v = .returned (.tuple #[]) ∧ ((e = 0 ∧ w' = w) ∨ (e ≠ 0 ∧ Ao G w Q s (endOf e) w')) := by
  obtain ⟨ov, O, H⟩ := H
  have c17 := H.c17
  have hlt := H.rlt
  have hz := H.blk.frozen
  have HH : Hid (True ∧ _) := ⟨trivial, H⟩
  clear H
  by_cases h0 : e = 0
  · subst h0
    go_enter Tryz.func57, Tryz.ntmps57
    go_wp2_with fail
    first | go_end0 | ((try simp only [Exit.inBlock, Exit.then]); refine bodyPost_ret (results_none rfl _ _ _) rfl ?_)
    first | exact ⟨rfl, .inl ⟨rfl, rfl⟩⟩ | exact ⟨rfl, .inl ⟨trivial, rfl⟩⟩ | simp
  by_cases h4 : e = 4
  · subst h4
    go_enter Tryz.func57, Tryz.ntmps57
    go_wp2_with fail
    first | go_end0 | ((try simp only [Exit.inBlock, Exit.then]); refine bodyPost_ret (results_none rfl _ _ _) rfl ?_)
    obtain ⟨_, H⟩ := HH.out
    exact ⟨rfl, .inr ⟨by decide, Ao.put H.x (H.setE 27).x (H.fr1 _ _)⟩⟩
  by_cases h5 : e = 5
  · subst h5
    go_enter Tryz.func57, Tryz.ntmps57
    go_wp2_with fail
    first | go_end0 | ((try simp only [Exit.inBlock, Exit.then]); refine bodyPost_ret (results_none rfl _ _ _) rfl ?_)
    obtain ⟨_, H⟩ := HH.out
    exact ⟨rfl, .inr ⟨by decide, Ao.put H.x (H.setE 26).x (H.fr1 _ _)⟩⟩
  by_cases h1 : e = 1
  · subst h1
    go_enter Tryz.func57, Tryz.ntmps57
    go_wp2_with fail
    first | go_end0 | ((try simp only [Exit.inBlock, Exit.then]); refine bodyPost_ret (results_none rfl _ _ _) rfl ?_)
    obtain ⟨_, H⟩ := HH.out
    exact ⟨rfl, .inr ⟨by decide, Ao.put H.x (H.setE 28).x (H.fr1 _ _)⟩⟩
  by_cases h3 : e = 3
  · subst h3
    go_enter Tryz.func57, Tryz.ntmps57
    go_wp2_with fail
    first | go_end0 | ((try simp only [Exit.inBlock, Exit.then]); refine bodyPost_ret (results_none rfl _ _ _) rfl ?_)
    obtain ⟨_, H⟩ := HH.out
    exact ⟨rfl, .inr ⟨by decide, Ao.put H.x (H.setE 29).x (H.fr1 _ _)⟩⟩
  by_cases h6 : e = 6
  · subst h6
    go_enter Tryz.func57, Tryz.ntmps57
    go_wp2_with fail
    first | go_end0 | ((try simp only [Exit.inBlock, Exit.then]); refine bodyPost_ret (results_none rfl _ _ _) rfl ?_)
    obtain ⟨_, H⟩ := HH.out
    exact ⟨rfl, .inr ⟨by decide, Ao.put H.x (H.setE 23).x (H.fr1 _ _)⟩⟩
  have y0 : (e == 0) = false := by simpa using h0
  have y4 : (e == 4) = false := by simpa using h4
  have y5 : (e == 5) = false := by simpa using h5
  have y1 : (e == 1) = false := by simpa using h1
  have y3 : (e == 3) = false := by simpa using h3
  have y6 : (e == 6) = false := by simpa using h6
  have he : endOf e = 24 := by unfold endOf; simp [h4, h5, h1, h3, h6]
  have HE : Hid (True ∧ _) := ⟨trivial, And.intro he h0⟩
  clear he h0 h4 h5 h1 h3 h6
  go_enter Tryz.func57, Tryz.ntmps57
  go_wp2_with fail
  first | go_end0 | ((try simp only [Exit.inBlock, Exit.then]); refine bodyPost_ret (results_none rfl _ _ _) rfl ?_)
  obtain ⟨_, H⟩ := HH.out
  refine ⟨rfl, .inr ⟨HE.out.2.2, ?_⟩⟩
  rw [HE.out.2.1]
  exact Ao.put H.x (H.setE 24).x (H.fr1 _ _)
set_option maxRecDepth 100000 in
theorem b2iK (b : Bool) : Calls Tryz.prog 134 #[.bool b] w fun v w' => v = .returned (.int .i64 (flagI b)) ∧ w' = w := by
  cases b with
  | true =>
    go_enter Tryz.func134, Tryz.ntmps134
    go_wp2_with fail
    go_ret
    exact ⟨rfl, rfl⟩
  | false =>
    go_enter Tryz.func134, Tryz.ntmps134
    go_wp2_with fail
    go_ret
    exact ⟨rfl, rfl⟩
end
end Go.Proofs.Qxb6500277aGreat
