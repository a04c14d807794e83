/- What 'add' leaves alone; 'step' as a function. -/
import Derived.Test.Qxb6500283aGreatPmWAdd
import Derived.Test.Qxb6500283aGreatPkWHas
namespace Go.Proofs.Qxb6500283aGreat
open Go Go.RowKit

/-- What the work on list W leaves alone: the other list V, its table, the best. -/
structure KeptM (W V : Nat) (s t : PS) : Prop where
  c : ∀ o, V * 130 ≤ o → o < V * 130 + 129 → t.f o = s.f o
  g : t.g V = s.g V
  b : t.b = s.b
theorem KeptM.refl (W V : Nat) (s : PS) : KeptM W V s s := ⟨fun _ _ _ => rfl, rfl, rfl⟩
theorem KeptM.trans {W V : Nat} {a b c : PS} (h : KeptM W V a b) (k : KeptM W V b c) : KeptM W V a c :=
  ⟨fun o h1 h2 => (k.c o h1 h2).trans (h.c o h1 h2), k.g.trans h.g, k.b.trans h.b⟩
theorem KeptM.push {W V : Nat} {s t : PS} (hV : V < 2) (h : KeptM W V s t) (a b c : Int) : KeptM W V s (pushS t a b c) :=
  ⟨fun o h1 h2 => (pushS_f t a b c o (by omega)).trans (h.c o h1 h2), h.g, h.b⟩
theorem KeptM.put {W V : Nat} {s : PS} (_hW : W < 2) (_hV : V < 2) (hne : V ≠ W) (pc : Nat) (hpc : pc < 64) (hn : (s.f (W * 130 + 128)).toNat < 64) : KeptM W V s { s with f := putF s.f W pc } :=
  ⟨fun o h1 h2 => putF_other s.f W pc o (by omega) (by omega) (by omega), rfl, rfl⟩

theorem KeptM.turn {p : List In} {W V : Nat} {s : PS} {size at_ : Int} (hp : OkProg p) (hW : W < 2) (hV : V < 2) (hne : V ≠ W) (h : AInv p W s) (hpos : 0 < s.f 261) : KeptM W V s (addTurn p size W at_ s) := by
  have hm := hp.max
  have n0 := h.l.n0
  have n1 := h.l.n1
  obtain ⟨j, hj⟩ : ∃ j : Nat, s.f 261 = (j : Int) + 1 := ⟨(s.f 261 - 1).toNat, by omega⟩
  have hj' : (s.f 261 - 1).toNat = j := by omega
  have hfr := h.s.fr j (by omega)
  unfold addTurn
  simp only [hj']
  have lf : ∀ (U : Nat) o, U < 2 → U * 130 ≤ o → o < U * 130 + 129 → upd (upd s.f 265 (s.f 265 + 1)) 261 (s.f 261 - 1) o = s.f o := fun U o h0 h1 h2 => by
    simp [upd, show o ≠ 261 by omega, show o ≠ 265 by omega]
  have k1 : KeptM W V s { s with f := upd (upd s.f 265 (s.f 265 + 1)) 261 (s.f 261 - 1) } := ⟨fun o h1 h2 => lf V o hV h1 h2, rfl, rfl⟩
  have n128 := lf W (W * 130 + 128) hW (by omega) (by omega)
  have l1 : LInv (upd (upd s.f 265 (s.f 265 + 1)) 261 (s.f 261 - 1)) W p.length := h.l.congr hm (fun o h1 h2 => lf W o hW h1 h2)
  split
  · exact ⟨k1.c, k1.g, k1.b⟩
  · split
    · exact k1
    · rename_i hh
      have hpc' : (s.k (j * 3)).toNat < p.length := by unfold frOK at hfr; omega
      have hlt := n_lt l1 hm hpc' (by simpa using hh)
      have k2 : KeptM W V s { s with f := putF (upd (upd s.f 265 (s.f 265 + 1)) 261 (s.f 261 - 1)) W (s.k (j * 3)).toNat } :=
        k1.trans (KeptM.put (s := { s with f := upd (upd s.f 265 (s.f 265 + 1)) 261 (s.f 261 - 1) }) hW hV hne _ (by omega) (by simp only [n128]; omega))
      refine followS_cases p size W (s.k (j * 3)).toNat at_ _ hp hpc' (fun t => KeptM W V s t) ?_ ?_ ?_ k2 ?_
      · intro a _ _; exact k2.push hV _ _ _
      · intro a b _ _ _ _; exact (k2.push hV _ _ _).push hV _ _ _
      · intro k _ _ _
        have k3 := k2.push hV 0 k (s.r k)
        exact KeptM.push hV (t := { (pushS { s with f := putF (upd (upd s.f 265 (s.f 265 + 1)) 261 (s.f 261 - 1)) W (s.k (j * 3)).toNat } 0 k (s.r k)) with r := upd s.r k at_ }) ⟨k3.c, k3.g, k3.b⟩ _ _ _
      · exact ⟨k2.c, by simp [updG, hne], rfl⟩

theorem addRun_spec {p : List In} {W V : Nat} {size at_ : Int} (hp : OkProg p) (hW : W < 2) (hV : V < 2) (hne : V ≠ W) : ∀ (k : Nat) (s : PS), AInv p W s → amu W s ≤ k →
    AInv p W (addRun p size W at_ k s) ∧ (addRun p size W at_ k s).f 261 = 0 ∧ KeptM W V s (addRun p size W at_ k s) ∧ s.f 265 ≤ (addRun p size W at_ k s).f 265 ∧ (addRun p size W at_ k s).f 265 ≤ s.f 265 + k
  | 0, s, h, hk => by
    have h0 := h.s.h0
    have n1 := h.l.n1
    have hm := hp.max
    unfold amu at hk
    simp only [addRun]
    exact ⟨h, by omega, KeptM.refl _ _ _, by omega, by omega⟩
  | k + 1, s, h, hk => by
    simp only [addRun]
    split
    · rename_i hpos
      obtain ⟨t1, t2⟩ := h.turn hp hW size at_ hpos
      have t3 := addTurn_steps (size := size) (at_ := at_) hp hW h hpos
      obtain ⟨a1, a2, a3, a4, a5⟩ := addRun_spec (size := size) (at_ := at_) hp hW hV hne k _ t1 (by omega)
      exact ⟨a1, a2, (KeptM.turn hp hW hV hne h hpos).trans a3, by omega, by omega⟩
    · have h0 := h.s.h0
      exact ⟨h, by omega, KeptM.refl _ _ _, by omega, by omega⟩

theorem addS_spec {p : List In} {W V pc : Nat} {size at_ : Int} {s : PS} (hp : OkProg p) (hW : W < 2) (hV : V < 2) (hne : V ≠ W) (hl : LInv s.f W p.length) (hpc : pc < p.length) :
    LInv (addSM p size W pc at_ s).f W p.length ∧ (addSM p size W pc at_ s).f 261 = 0 ∧ KeptM W V s (addSM p size W pc at_ s) ∧ s.f 265 ≤ (addSM p size W pc at_ s).f 265 ∧ (addSM p size W pc at_ s).f 265 ≤ s.f 265 + 300 := by
  obtain ⟨s1, s2⟩ := AInv.start (s := s) hp hW hl hpc
  obtain ⟨a1, a2, a3, a4, a5⟩ := addRun_spec (size := size) (at_ := at_) hp hW hV hne 300 _ s1 s2
  have k0 : KeptM W V s (pushS { s with f := upd s.f 261 0 } pc (-1) 0) :=
    KeptM.push hV (s := s) (t := { s with f := upd s.f 261 0 }) ⟨fun o h1 h2 => by simp [upd, show o ≠ 261 by omega], rfl, rfl⟩ _ _ _
  have e5 : (pushS { s with f := upd s.f 261 0 } pc (-1) 0).f 265 = s.f 265 := by rw [pushS_f _ _ _ _ _ (by omega)]; simp [upd]
  rw [e5] at a4 a5
  exact ⟨a1.l, a2, k0.trans a3, a4, a5⟩

def stepFrom (p : List In) (s : ByteArray) (W at_ : Nat) : Nat → Nat → PS → Bool × PS
  | 0, _, st => (false, st)
  | m + 1, k, st =>
    let st1 : PS := { st with f := upd st.f 265 (st.f 265 + 1) }
    match p[(st.f (W * 130 + k)).toNat]? with
    | none => (false, st)
    | some i =>
      if i.op = 6 then (true, { st1 with b := upd (cpy st.b 0 (st.g W) (k * 8) 8) 1 at_ })
      else if i.op = 0 ∧ at_ < s.size ∧ hasB i.s0 i.s1 i.s2 i.s3 (bt s at_) = true then
        stepFrom p s W at_ m (k + 1) (addSM p s.size (1 - W) ((st.f (W * 130 + k)).toNat + 1) (at_ + 1) { st1 with r := cpy st.r 0 (st.g W) (k * 8) 8 })
      else stepFrom p s W at_ m (k + 1) st1
def stepS (p : List In) (s : ByteArray) (W at_ : Nat) (st : PS) : Bool × PS :=
  stepFrom p s W at_ (st.f (W * 130 + 128)).toNat 0 { st with f := upd st.f ((1 - W) * 130 + 128) 0 }
end Go.Proofs.Qxb6500283aGreat
