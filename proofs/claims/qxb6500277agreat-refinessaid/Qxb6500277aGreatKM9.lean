/- The model heap: an object is born. -/
import Derived.Test.Qxb6500277aGreatKM8
import Derived.Test.Qxb6500277aGreatKI2
import Derived.Test.Qxb6500277aGreatText5
namespace Go.Proofs.Qxb6500277aGreat
open Go Go.RowKit

def Ow2 (O : Nat → Prop) (b1 b2 : Nat) (w w' : World) (c : Nat) : Prop := O c ∨ c = b1 ∨ c = b2 ∨ (w.heap.size ≤ c ∧ c < w'.heap.size)
theorem MV.growOb {w w1 : World} {m b1 b2 n1 n2 c1 c2 : Nat} {M : MS} {O : Nat → Prop} {ov rv v' : Value} {f f' : Nat → Value} {l1 l2 : List Int} (V : MV w m M O ov rv f) (k : Fr (isB ov) w w1) (hO : OA w1 v' (M.objs.length + 1) f') (hf : ∀ j, j < M.objs.length * 2 → f' j = f j) (hf1 : f' (M.objs.length * 2) = .slice (some ⟨b1, 0, none⟩) n1 c1) (hf2 : f' (M.objs.length * 2 + 1) = .slice (some ⟨b2, 0, none⟩) n2 c2)
    (k1 : KiAt w (.slice (some ⟨b1, 0, none⟩) n1 c1) l1) (k2 : KiAt w (.slice (some ⟨b2, 0, none⟩) n2 c2) l2) (ho1 : ¬ O b1) (ho2 : ¬ O b2) (hne : b1 ≠ b2) (hb : ∀ b, isB v' b → w.heap.size ≤ b ∨ isB ov b) :
    MV (w1.setCell ⟨m, 0, none⟩ v') m ⟨M.objs ++ [(l1, l2)], M.rt⟩ (Ow2 O b1 b2 w w1) v' rv f' := by
  have hl1 : b1 < w.heap.size := k1.bk ⟨_, _, rfl⟩
  have hl2 : b2 < w.heap.size := k2.bk ⟨_, _, rfl⟩
  have hm := V.lt m V.om
  have hz := k.size
  have hm1 : b1 ≠ m := fun e => ho1 (e ▸ V.om)
  have hm2 : b2 ≠ m := fun e => ho2 (e ▸ V.om)
  have ks := (Fr.refl (fun c => c = m) w1).setC m 0 v' (fun _ => rfl)
  have ovO : ∀ c, isB ov c → O c ∧ c ≠ m := fun c hc => V.own 1 c (by omega) hc
  have hmo : ¬ isB ov m := fun h => (ovO m h).2 rfl
  have old : ∀ p, p < 2 + 2 * M.objs.length → p ≠ 1 → ∀ v, v = vl ov rv f p → ∀ c, isB v c → ¬ isB ov c ∧ ¬ c = m ∧ O c := fun p hp hn v hv c hc => by
    subst hv
    exact ⟨fun h => hn (V.ap p 1 c hp (by omega) hc h), (V.own p c hp hc).2, (V.own p c hp hc).1⟩
  have part : ∀ p c, p < 2 + 2 * (M.objs.length + 1) → isB (vl v' rv f' p) c → (p ≠ 1 ∧ p < 2 + 2 * M.objs.length ∧ isB (vl ov rv f p) c) ∨ (p = 1 ∧ isB v' c) ∨ (p = 2 + 2 * M.objs.length ∧ c = b1) ∨ (p = 3 + 2 * M.objs.length ∧ c = b2) := by
    intro p c hp hc
    match p with
    | 0 => exact .inl ⟨by omega, by omega, hc⟩
    | 1 => exact .inr (.inl ⟨rfl, hc⟩)
    | q + 2 =>
      have hc : isB (f' q) c := hc
      by_cases h1 : q < M.objs.length * 2
      · rw [hf q h1] at hc
        exact .inl ⟨by omega, by omega, hc⟩
      · obtain rfl | rfl : q = M.objs.length * 2 ∨ q = M.objs.length * 2 + 1 := by omega
        · rw [hf1] at hc
          exact .inr (.inr (.inl ⟨by omega, isB_one hc⟩))
        · rw [hf2] at hc
          exact .inr (.inr (.inr ⟨by omega, isB_one hc⟩))
  have lo : ∀ p c, p < 2 + 2 * M.objs.length → isB (vl ov rv f p) c → O c := fun p c hp hc => (V.own p c hp hc).1
  refine ⟨((V.blk.frame k hmo).set 0 v').congr (fun o ho => ?_), (V.rt.frame k (fun c hc => (old 0 (by omega) (by omega) _ rfl c hc).1)).frame ks (fun c hc => (old 0 (by omega) (by omega) _ rfl c hc).2.1), ?_, fun i hi => ?_, fun p q c hp hq h1 h2 => ?_, fun p c hp hc => ?_, .inl V.om, fun c hc => ?_, fun i hi => ?_⟩
  · obtain rfl | rfl : o = 0 ∨ o = 1 := by omega
    all_goals simp [upd, mc]
  · simp only [List.length_append, List.length_singleton]
    exact hO.frame ks (fun c hc e => by
      subst e
      rcases hb c hc with h | h
      · omega
      · exact hmo h)
  · simp only [List.length_append, List.length_singleton] at hi
    by_cases h1 : i < M.objs.length
    · rw [List.getElem_append_left h1, hf (2 * i) (by omega), hf (2 * i + 1) (by omega)]
      obtain ⟨g1, g2⟩ := V.fl i h1
      exact ⟨(g1.frame k (fun c hc => (old (2 * i + 2) (by omega) (by omega) _ rfl c hc).1)).frame ks (fun c hc => (old (2 * i + 2) (by omega) (by omega) _ rfl c hc).2.1), (g2.frame k (fun c hc => (old (2 * i + 1 + 2) (by omega) (by omega) _ rfl c hc).1)).frame ks (fun c hc => (old (2 * i + 1 + 2) (by omega) (by omega) _ rfl c hc).2.1)⟩
    · have : i = M.objs.length := by omega
      subst this
      rw [List.getElem_append_right (Nat.le_refl _), show 2 * M.objs.length = M.objs.length * 2 by omega, hf1, hf2]
      simp only [Nat.sub_self, List.getElem_cons_zero]
      exact ⟨(k1.frame k (fun c hc h => by rw [isB_one hc] at h; exact ho1 (ovO _ h).1)).frame ks (fun c hc => by rw [isB_one hc]; exact hm1), (k2.frame k (fun c hc h => by rw [isB_one hc] at h; exact ho2 (ovO _ h).1)).frame ks (fun c hc => by rw [isB_one hc]; exact hm2)⟩
  · simp only [List.length_append, List.length_singleton] at hp hq
    rcases part p c hp h1 with ⟨a0, a1, a2⟩ | ⟨rfl, a2⟩ | ⟨rfl, a2⟩ | ⟨rfl, a2⟩ <;> rcases part q c hq h2 with ⟨e0, e1, e2⟩ | ⟨rfl, e2⟩ | ⟨rfl, e2⟩ | ⟨rfl, e2⟩
    · exact V.ap p q c a1 e1 a2 e2
    · exfalso
      rcases hb c e2 with h | h
      · have := V.lt c (lo p c a1 a2); omega
      · exact a0 (V.ap p 1 c a1 (by omega) a2 h)
    · exact absurd (lo p c a1 a2) (e2 ▸ ho1)
    · exact absurd (lo p c a1 a2) (e2 ▸ ho2)
    · exfalso
      rcases hb c a2 with h | h
      · have := V.lt c (lo q c e1 e2); omega
      · exact e0 (V.ap q 1 c e1 (by omega) e2 h)
    · rfl
    · exfalso
      subst e2
      rcases hb c a2 with h | h
      · omega
      · exact ho1 (ovO c h).1
    · exfalso
      subst e2
      rcases hb c a2 with h | h
      · omega
      · exact ho2 (ovO c h).1
    · exact absurd (lo q c e1 e2) (a2 ▸ ho1)
    · exfalso
      subst a2
      rcases hb c e2 with h | h
      · omega
      · exact ho1 (ovO c h).1
    · rfl
    · omega
    · exact absurd (lo q c e1 e2) (a2 ▸ ho2)
    · exfalso
      subst a2
      rcases hb c e2 with h | h
      · omega
      · exact ho2 (ovO c h).1
    · omega
    · rfl
  · simp only [List.length_append, List.length_singleton] at hp
    rcases part p c hp hc with ⟨a0, a1, a2⟩ | ⟨rfl, a2⟩ | ⟨rfl, a2⟩ | ⟨rfl, a2⟩
    · exact ⟨.inl (V.own p c a1 a2).1, (V.own p c a1 a2).2⟩
    · rcases hb c a2 with h | h
      · have : c < w1.heap.size := by
          rcases hO with ⟨rfl, _⟩ | ⟨b, cap, rfl, _, hbk⟩
          · exact absurd a2 (nil_noB c)
          · rw [isB_one a2]; exact hbk.lt
        exact ⟨.inr (.inr (.inr ⟨h, this⟩)), by omega⟩
      · exact ⟨.inl (ovO c h).1, (ovO c h).2⟩
    · exact ⟨.inr (.inl a2), by omega⟩
    · exact ⟨.inr (.inr (.inl a2)), by omega⟩
  · have := ks.size
    rcases hc with hc | hc | hc | hc
    · have := V.lt c hc; omega
    · omega
    · omega
    · omega
  · simp only [List.length_append, List.length_singleton] at hi
    by_cases h1 : i < M.objs.length
    · rw [hf (2 * i + 1) (by omega)]; exact V.nn i h1
    · have : i = M.objs.length := by omega
      subst this
      rw [show 2 * M.objs.length + 1 = M.objs.length * 2 + 1 by omega, hf2]
      exact ⟨_, _, _, rfl⟩
theorem MV.one1 {w : World} {m : Nat} {M : MS} {O : Nat → Prop} {ov rv : Value} {f : Nat → Value} (V : MV w m M O ov rv f) : ∀ j, j < M.objs.length * 2 → (f j).oneCell' = true := fun j hj => by
  obtain ⟨i, h | h⟩ : ∃ i, j = 2 * i ∨ j = 2 * i + 1 := ⟨j / 2, by omega⟩
  · subst h
    obtain ⟨a, c, e, _⟩ := (V.fl i (by omega)).1.sl
    rw [e]; rfl
  · subst h
    obtain ⟨a, c, e, _⟩ := (V.fl i (by omega)).2.sl
    rw [e]; rfl
end Go.Proofs.Qxb6500277aGreat
