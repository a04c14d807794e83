/- The heap's plain side: two heaps that show the same. -/
import Derived.Test.Qxb6500277aGreatK3
namespace Go.Proofs.Qxb6500277aGreat
open Go Go.RowKit

/-- A heap as it shows itself: the slots, and each object's ref fields and int fields. -/
structure Gh where
  rt : List Int
  R : Int → List Int
  I : Int → List Int
def Gh.ord (g : Gh) : List Int := orderF g.rt g.R
def Gh.live (g : Gh) : Nat := (g.ord.map fun a => 1 + (g.R a).length + (g.I a).length).sum
def Gh.dump (g : Gh) : List Int :=
  [(g.rt.length : Int)] ++ g.rt.map (fnd g.ord) ++ [(g.ord.length : Int)] ++ g.ord.flatMap fun a => [((g.R a).length : Int), ((g.I a).length : Int)] ++ (g.R a).map (fnd g.ord) ++ g.I a
structure Sim (P : Int → Int → Prop) (g g' : Gh) : Prop where
  pr : Pair P
  rt : L2 (VV P) g.rt g'.rt
  fl : ∀ a i, P a i → L2 (VV P) (g.R a) (g'.R i) ∧ g.I a = g'.I i
theorem scan_sim {P : Int → Int → Prop} {R R' : Int → List Int} (hP : Pair P) (hR : ∀ a i, P a i → L2 (VV P) (R a) (R' i)) : ∀ (n k : Nat) {l l' : List Int}, L2 P l l' → L2 P (scanF R n k l) (scanF R' n k l')
  | 0, _, _, _, h => h
  | n + 1, k, l, l', h => by
    have hl := h.len
    by_cases hk : k < l.length
    · rw [scanF_step hk, scanF_step (by omega)]
      exact scan_sim hP hR n _ (L2.notes hP (hR _ _ (h.get k hk (by omega))) h)
    · rw [scanF_end (by omega), scanF_end (by omega)]
      exact h
section
variable {P : Int → Int → Prop} {g g' g'' : Gh}
theorem Sim.ord (h : Sim P g g') : L2 P g.ord g'.ord := scan_sim h.pr (fun a i hp => (h.fl a i hp).1) _ _ (L2.notes h.pr h.rt .nil)
theorem L2.mapEq {V : Int → Int → Prop} {β : Type} {l m : List Int} (h : L2 V l m) {f f' : Int → β} (hf : ∀ a b, V a b → f a = f' b) : l.map f = m.map f' := by
  induction h with
  | nil => rfl
  | cons hv _ ih => simp [hf _ _ hv, ih]
theorem Sim.live (h : Sim P g g') : g.live = g'.live := by
  unfold Gh.live
  rw [h.ord.mapEq (f' := fun a => 1 + (g'.R a).length + (g'.I a).length) (fun a i hp => by rw [(h.fl a i hp).1.len, (h.fl a i hp).2])]
theorem Sim.dump (h : Sim P g g') : g.dump = g'.dump := by
  have ho := h.ord
  have hf : ∀ a i, VV P a i → Go.Proofs.Qxb6500277aGreat.fnd g.ord a = Go.Proofs.Qxb6500277aGreat.fnd g'.ord i := fun a i hv => ho.fnd h.pr hv
  unfold Gh.dump
  rw [h.rt.len, ho.len, h.rt.mapEq hf]
  congr 1
  rw [List.flatMap_def, List.flatMap_def]
  congr 1
  exact ho.mapEq fun a i hp => by rw [(h.fl a i hp).1.len, (h.fl a i hp).2, (h.fl a i hp).1.mapEq hf]
theorem L2.flip {V : Int → Int → Prop} {l m : List Int} (h : L2 V l m) : L2 (fun a b => V b a) m l := by
  induction h with
  | nil => exact .nil
  | cons hv _ ih => exact .cons hv ih
theorem L2.imp' {V V' : Int → Int → Prop} {l m : List Int} (h : L2 V l m) (hi : ∀ a b, V a b → V' a b) : L2 V' l m := h.imp (fun a _ b hv => hi a b hv)
theorem Sim.flip (h : Sim P g g') : Sim (fun a b => P b a) g' g := by
  have hv : ∀ a b, VV P b a → VV (fun a b => P b a) a b := fun a b hv => hv.imp (fun h => ⟨h.2, h.1⟩) id
  refine ⟨⟨fun a i hp => (h.pr.pos i a hp).symm, fun a i b j h1 h2 => (h.pr.one i a j b h1 h2).symm⟩, h.rt.flip.imp' hv, fun a i hp => ⟨(h.fl i a hp).1.flip.imp' hv, (h.fl i a hp).2.symm⟩⟩
theorem L2.comp {V W U : Int → Int → Prop} {l m n : List Int} (h : L2 V l m) (h' : L2 W m n) (hc : ∀ a b c, V a b → W b c → U a c) : L2 U l n := by
  induction h generalizing n with
  | nil => cases h'; exact .nil
  | cons hv _ ih => cases h' with | cons hw h' => exact .cons (hc _ _ _ hv hw) (ih h')
theorem Sim.comp {Q : Int → Int → Prop} (h : Sim P g g') (h' : Sim Q g' g'') : Sim (fun a c => ∃ b, P a b ∧ Q b c) g g'' := by
  have hv : ∀ a b c, VV P a b → VV Q b c → VV (fun a c => ∃ b, P a b ∧ Q b c) a c := by
    rintro a b c (⟨rfl, rfl⟩ | h1) (⟨h2, rfl⟩ | h2)
    · exact .inl ⟨rfl, rfl⟩
    · have := h'.pr.pos _ _ h2; omega
    · have := h.pr.pos _ _ h1; omega
    · exact .inr ⟨b, h1, h2⟩
  refine ⟨⟨?_, ?_⟩, h.rt.comp h'.rt hv, ?_⟩
  · rintro a c ⟨b, h1, h2⟩
    exact ⟨(h.pr.pos _ _ h1).1, (h'.pr.pos _ _ h2).2⟩
  · rintro a c a' c' ⟨b, h1, h2⟩ ⟨b', h3, h4⟩
    rw [h.pr.one _ _ _ _ h1 h3, h'.pr.one _ _ _ _ h2 h4]
  · rintro a c ⟨b, h1, h2⟩
    exact ⟨(h.fl _ _ h1).1.comp (h'.fl _ _ h2).1 hv, (h.fl _ _ h1).2.trans (h'.fl _ _ h2).2⟩
end
theorem L2.mapR {V : Int → Int → Prop} {f : Int → Int} : ∀ {l : List Int}, (∀ a ∈ l, V a (f a)) → L2 V l (l.map f)
  | [], _ => .nil
  | a :: r, h => .cons (h a (by simp)) (L2.mapR (fun b hb => h b (by simp [hb])))
/-- The objects of a list are numbered anew. -/
def Num (L : List Int) (num : Nat → Int) (a b : Int) : Prop := ∃ k, ∃ hk : k < L.length, L[k] = a ∧ b = num k
theorem renum {g g' : Gh} {L : List Int} {num : Nat → Int} {nw : Int → Int} (hn : L.Nodup) (hp : ∀ x ∈ L, 0 ≤ x) (hnum : ∀ k, k < L.length → 0 ≤ num k) (hinj : ∀ i j, i < L.length → j < L.length → num i = num j → i = j)
    (hnw : ∀ x, x = -1 ∨ x ∈ L → nw x = if x < 0 then -1 else num (fnd L x).toNat) (hr : ∀ x ∈ g.rt, x = -1 ∨ x ∈ L) (hrt : g'.rt = g.rt.map nw)
    (hR : ∀ k (hk : k < L.length), g'.R (num k) = (g.R L[k]).map nw ∧ g'.I (num k) = g.I L[k] ∧ ∀ y ∈ g.R L[k], y = -1 ∨ y ∈ L) : Sim (Num L num) g g' := by
  have hv : ∀ x, x = -1 ∨ x ∈ L → VV (Num L num) x (nw x) := by
    rintro x (rfl | hx)
    · exact .inl ⟨rfl, by rw [hnw _ (.inl rfl)]; simp⟩
    · have h0 := hp x hx
      obtain ⟨i, hi, h1, h2⟩ := fnd_mem hx
      refine .inr ⟨i, hi, h2, ?_⟩
      rw [hnw x (.inr hx), if_neg (by omega), h1]
      simp
  refine ⟨⟨?_, ?_⟩, ?_, ?_⟩
  · rintro a b ⟨k, hk, rfl, rfl⟩
    exact ⟨hp _ (List.getElem_mem hk), hnum k hk⟩
  · rintro a b a' b' ⟨k, hk, rfl, rfl⟩ ⟨j, hj, rfl, rfl⟩
    constructor
    · intro he
      rw [(List.getElem_inj hn).1 he]
    · intro he
      obtain rfl := hinj k j hk hj he
      rfl
  · rw [hrt]; exact L2.mapR (fun a ha => hv a (hr a ha))
  · rintro a b ⟨k, hk, rfl, rfl⟩
    obtain ⟨h1, h2, h3⟩ := hR k hk
    exact ⟨by rw [h1]; exact L2.mapR (fun y hy => hv y (h3 y hy)), h2.symm⟩
end Go.Proofs.Qxb6500277aGreat
