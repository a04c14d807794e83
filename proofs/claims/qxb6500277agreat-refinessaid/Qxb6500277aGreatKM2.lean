/- The model heap: the slots. -/
import Derived.Test.Qxb6500277aGreatKM1
namespace Go.Proofs.Qxb6500277aGreat
open Go Go.RowKit

/-- What the model owns behind a call: what it owned, and what is new. -/
def Gw (O : Nat → Prop) (w w' : World) (c : Nat) : Prop := O c ∨ (w.heap.size ≤ c ∧ c < w'.heap.size)
section
variable {w w' w1 : World} {m : Nat} {M : MS} {O : Nat → Prop} {ov rv : Value} {f : Nat → Value}
theorem MM.grow (h : MM w' m M O) (_ : w.heap.size ≤ w'.heap.size) : MM w' m M (Gw O w w') := by
  obtain ⟨ov, rv, f, V⟩ := h
  exact ⟨ov, rv, f, V.up (fun c hc => .inl hc) (fun c hc => hc.elim (V.lt c) (fun h => h.2))⟩
theorem MV.growRt {rv' : Value} {l : List Int} (V : MV w m M O ov rv f) (k1 : Fr (isB rv) w w1) (hk : KiAt w1 rv' l) (hb : ∀ c, isB rv' c → w.heap.size ≤ c ∨ isB rv c) : MV (w1.setCell ⟨m, 1, none⟩ rv') m { M with rt := l } (Gw O w w1) ov rv' f := by
  have k := (Fr.refl (fun c => c = m) w1).setC m 1 rv' (fun _ => rfl)
  have hz := k1.size
  have nr : ∀ p, p < 2 + 2 * M.objs.length → p ≠ 0 → ∀ v, v = vl ov rv f p → ∀ c, isB v c → ¬ isB rv c := fun p hp hn v hv c hc hr => by
    subst hv; exact hn (V.ap p 0 c hp (by omega) hc hr)
  have nm : ∀ p, p < 2 + 2 * M.objs.length → ∀ v, v = vl ov rv f p → ∀ c, isB v c → ¬ c = m := fun p hp v hv c hc => by subst hv; exact (V.own p c hp hc).2
  have hmr : ¬ isB rv m := fun h => (V.own 0 m (by omega) h).2 rfl
  have hnew : ∀ p c, p < 2 + 2 * M.objs.length → isB (vl ov rv f p) c → c < w.heap.size := fun p c hp hc => V.lt c (V.own p c hp hc).1
  have hmlt := V.lt m V.om
  have hv : ∀ p c, p < 2 + 2 * M.objs.length → isB (vl ov rv' f p) c → isB (vl ov rv f p) c ∨ (p = 0 ∧ w.heap.size ≤ c) := fun p c _ hc => by
    match p with
    | 0 => exact (hb c hc).elim (fun h => .inr ⟨rfl, h⟩) .inl
    | 1 => exact .inl hc
    | _ + 2 => exact .inl hc
  refine ⟨((V.blk.frame k1 hmr).set 1 rv').congr (fun o ho => ?_), hk.frame k (fun c hc e => ?_), (V.ob.frame k1 (nr 1 (by omega) (by omega) _ rfl)).frame k (nm 1 (by omega) _ rfl), fun j hj => ?_, fun p q c hp hq h1 h2 => ?_, fun p c hp hc => ?_, .inl V.om, fun c hc => ?_, V.nn⟩
  · obtain rfl | rfl : o = 0 ∨ o = 1 := by omega
    all_goals simp [upd, mc]
  · subst e
    rcases hb c hc with h | h
    · omega
    · exact hmr h
  · have hj : j < M.objs.length := hj
    obtain ⟨g1, g2⟩ := V.fl j hj
    exact ⟨(g1.frame k1 (nr (2 * j + 2) (by omega) (by omega) _ rfl)).frame k (nm (2 * j + 2) (by omega) _ rfl), (g2.frame k1 (nr (2 * j + 1 + 2) (by omega) (by omega) _ rfl)).frame k (nm (2 * j + 1 + 2) (by omega) _ rfl)⟩
  · have hp : p < 2 + 2 * M.objs.length := hp
    have hq : q < 2 + 2 * M.objs.length := hq
    rcases hv p c hp h1 with a1 | ⟨a1, a2⟩ <;> rcases hv q c hq h2 with b1 | ⟨b1, b2⟩
    · exact V.ap p q c hp hq a1 b1
    · have := hnew p c hp a1; omega
    · have := hnew q c hq b1; omega
    · omega
  · have hp : p < 2 + 2 * M.objs.length := hp
    rcases hv p c hp hc with a1 | ⟨a1, a2⟩
    · exact ⟨.inl (V.own p c hp a1).1, (V.own p c hp a1).2⟩
    · subst a1
      have : c < w1.heap.size := hk.bk hc
      exact ⟨.inr ⟨a2, this⟩, by omega⟩
  · rcases hc with hc | hc
    · have := V.lt c hc; have := k.size; omega
    · have := k.size; omega
theorem MV.clear (V : MV w m M O ov rv f) : MV ((w.setCell ⟨m, 0, none⟩ (.slice none 0 0)).setCell ⟨m, 1, none⟩ (.slice none 0 0)) m ⟨[], []⟩ O (.slice none 0 0) (.slice none 0 0) f := by
  have hz : ∀ p c, p < 2 + 2 * ([] : List (List Int × List Int)).length → ¬ isB (vl (.slice none 0 0) (.slice none 0 0) f p) c := fun p c hp hc => by
    simp at hp
    obtain rfl | rfl : p = 0 ∨ p = 1 := by omega
    all_goals exact nil_noB c hc
  have hs : ∀ c, O c → c < ((w.setCell ⟨m, 0, none⟩ (.slice none 0 0)).setCell ⟨m, 1, none⟩ (.slice none 0 0)).heap.size := fun c hc => by have := V.lt c hc; simpa using this
  refine ⟨((V.blk.set 0 _).set 1 _).congr (fun o ho => ?_), .inl ⟨rfl, rfl⟩, .inl ⟨rfl, rfl⟩, fun i hi => by simp at hi, fun p q c hp _ h1 _ => absurd h1 (hz p c hp), fun p c hp h1 => absurd h1 (hz p c hp), V.om, hs, fun i hi => by simp at hi⟩
  obtain rfl | rfl : o = 0 ∨ o = 1 := by omega
  all_goals simp [upd, mc]
theorem KiAt.take {q : List Int} {b c : Nat} (h : KiAt w (.slice (some ⟨b, 0, none⟩) q.length c) q) {k : Nat} (hk : k ≤ q.length) : KiAt w (.slice (some ⟨b, 0, none⟩) k c) (q.take k) := by
  rcases h with ⟨h1, _⟩ | ⟨b', cap, g, e, hc, hbk, hf⟩
  · cases h1
  · cases e
    exact .inr ⟨b, c, g, by simp [Nat.min_eq_left hk], by simp; omega, hbk, fun i hi => by simp at hi; rw [List.getElem_take]; exact hf i (by omega)⟩
end
set_option maxRecDepth 100000 in
set_option maxHeartbeats 2000000 in
theorem pushMF {w : World} {m : Nat} {M : MS} {O : Nat → Prop} (H : MM w m M O) : Calls Tryz.prog 55 #[.pointer (some ⟨m, 0, none⟩)] w fun e w' => e = .returned (.int .i64 (pushM M).1) ∧ MM w' m (pushM M).2 (Gw O w w') ∧ Fr O w w' := by
  obtain ⟨ov, rv, f, V⟩ := H
  have hG : MM w m M (Gw O w w) := MM.grow ⟨ov, rv, f, V⟩ (Nat.le_refl _)
  obtain ⟨c0, c1, hlt, hz⟩ := V.cells
  obtain ⟨ra, rc, hrv, hrc⟩ := V.rt.sl
  unfold pushM
  by_cases hf : 24 ≤ M.rt.length
  · rw [if_pos hf]
    rw [hrv] at c1
    go_enter Tryz.func55, Tryz.ntmps55
    go_wp2_with fail
    go_ret
    exact ⟨rfl, hG, Fr.refl _ _⟩
  · rw [if_neg hf]
    have hf2 : M.rt.length < 24 := by omega
    have kA := (Fr.refl (fun _ => False) w).alloc (.cells #[.int .i64 (-1)] 3)
    have VA := V.frame kA (fun _ _ h => h)
    have hx : KiP (w.alloc (.cells #[.int .i64 (-1)] 3)) w.heap.size [(-1)] := KiP.one ((Blk.new w #[.int .i64 (-1)] 3 (fun _ => .int .i64 (-1)) (fun o ho => by
      have ho : o < 1 := by simpa using ho
      obtain rfl : o = 0 := by omega
      rfl)).cell (by simp))
    have hmO := V.om
    rw [hrv] at c1 VA
    have kAz := kA.size
    clear hf hG
    go_enter Tryz.func55, Tryz.ntmps55
    go_wp2_with (
      at_builtin
      refine wpList_appendI (by rfl) _ _ (by rfl) _ _ [(-1 : Int)] _ 1 1 (by rfl) (by rfl) rfl VA.rt hx (.inr (by simp)) (by simp; omega) ?_
      intro v' w5 hc5 hb5 f5
      obtain ⟨va, vc, hvv, _⟩ := hc5.sl
      simp only [List.length_append, List.length_singleton] at hvv
      subst hvv
      have VG := VA.growRt f5 hc5 hb5
      have cm := VA.blk.frame f5 (fun hh => (VA.own 0 m (by omega) hh).2 rfl)
      have cm1 := cm.cell (o := 1) (by omega)
      have cml := cm.lt
      have cmz := cm.frozen)
    go_ret
    have hs := f5.size
    refine ⟨rfl, ⟨_, _, _, VG.up (fun c hc => ?_) (fun c hc => ?_)⟩, ?_⟩
    · rcases hc with hc | hc
      · exact .inl hc
      · exact .inr ⟨by omega, by simp; omega⟩
    · rcases hc with hc | hc
      · have := V.lt c hc; simp; omega
      · exact hc.2
    · exact ((kA.mono (S' := O) (fun _ _ h => h.elim)).trans f5 (fun c _ hc => (VA.own 0 c (by omega) hc).1)).setC m 1 _ (fun _ => hmO)
end Go.Proofs.Qxb6500277aGreat
