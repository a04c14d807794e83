/- The real machine's 'add', as a function on its own memory: what it keeps, and that it ends. No Go is walked here. -/
import Derived.Test.Qxb6500283aGreatPmWFollow2
namespace Go.Proofs.Qxb6500283aGreat
open Go Go.RowKit

structure LInv (f : Nat → Int) (W m : Nat) : Prop where
  n0 : 0 ≤ f (W * 130 + 128)
  n1 : f (W * 130 + 128) ≤ m
  sp : ∀ pc, pc < 64 → 0 ≤ f (W * 130 + 64 + pc) ∧ f (W * 130 + 64 + pc) < 64
  ds : ∀ k : Nat, (k : Int) < f (W * 130 + 128) → 0 ≤ f (W * 130 + k) ∧ f (W * 130 + k) < m ∧ f (W * 130 + 64 + (f (W * 130 + k)).toNat) = k

theorem LInv.congr {f f' : Nat → Int} {W m : Nat} (hm : m ≤ 64) (h : LInv f W m) (e : ∀ o, W * 130 ≤ o → o < W * 130 + 129 → f' o = f o) : LInv f' W m := by
  have e128 := e (W * 130 + 128) (by omega) (by omega)
  have n1 := h.n1
  refine ⟨by rw [e128]; exact h.n0, by rw [e128]; exact h.n1, fun pc hpc => ?_, fun k hk => ?_⟩
  · rw [e _ (by omega) (by omega)]; exact h.sp pc hpc
  · rw [e128] at hk
    have hd := h.ds k hk
    rw [e (W * 130 + k) (by omega) (by omega), e _ (by omega) (by omega)]
    exact hd



/-- The instructions on list W, in their order. -/
def listOf (f : Nat → Int) (W : Nat) : List Nat := (List.range (f (W * 130 + 128)).toNat).map fun k => (f (W * 130 + k)).toNat
theorem listOf_length (f : Nat → Int) (W : Nat) : (listOf f W).length = (f (W * 130 + 128)).toNat := by simp [listOf]
theorem LInv.nodup {f : Nat → Int} {W m : Nat} (h : LInv f W m) : (listOf f W).Nodup := by
  unfold listOf
  rw [List.nodup_iff_pairwise_ne, List.pairwise_map]
  refine (List.nodup_iff_pairwise_ne.1 List.nodup_range).imp_of_mem ?_
  intro a b ha hb hne he
  simp only [List.mem_range] at ha hb
  have h1 := h.ds a (by omega)
  have h2 := h.ds b (by omega)
  rw [he] at h1
  omega
theorem LInv.lt {f : Nat → Int} {W m : Nat} (h : LInv f W m) : ∀ a ∈ listOf f W, a < m := by
  intro a ha
  obtain ⟨k, hk, rfl⟩ := List.mem_map.1 ha
  simp only [List.mem_range] at hk
  have := h.ds k (by omega)
  omega
theorem hasF_iff {f : Nat → Int} {W m pc : Nat} (h : LInv f W m) (hm : m ≤ 64) (hpc : pc < m) : hasF f W pc = true ↔ pc ∈ listOf f W := by
  have hs := h.sp pc (by omega)
  unfold hasF listOf
  simp only [Bool.and_eq_true, decide_eq_true_eq, beq_iff_eq, List.mem_map, List.mem_range]
  constructor
  · rintro ⟨h1, h2⟩
    exact ⟨(f (W * 130 + 64 + pc)).toNat, by omega, by omega⟩
  · rintro ⟨k, hk, e⟩
    have hd := h.ds k (by omega)
    rw [e] at hd
    rw [hd.2.2]
    simp only [Int.toNat_natCast]
    exact ⟨by omega, by omega⟩
theorem n_lt {f : Nat → Int} {W m pc : Nat} (h : LInv f W m) (hm : m ≤ 64) (hpc : pc < m) (hh : hasF f W pc = false) : f (W * 130 + 128) < m := by
  have h1 := pigeonK m (pc :: listOf f W) (List.nodup_cons.2 ⟨fun hc => (by rw [(hasF_iff h hm hpc).2 hc] at hh; cases hh), h.nodup⟩) (fun a ha => by
    rcases List.mem_cons.1 ha with rfl | ha
    · exact hpc
    · exact h.lt a ha)
  rw [List.length_cons, listOf_length] at h1
  have := h.n0
  omega

theorem putF_n (f : Nat → Int) (W pc : Nat) : putF f W pc (W * 130 + 128) = f (W * 130 + 128) + 1 := by simp [putF, upd]
theorem putF_other (f : Nat → Int) (W pc o : Nat) (h1 : o ≠ W * 130 + 128) (h2 : o ≠ W * 130 + 64 + pc) (h3 : o ≠ W * 130 + (f (W * 130 + 128)).toNat) : putF f W pc o = f o := by
  simp [putF, upd, h1, h2, h3]
theorem LInv.put {f : Nat → Int} {W m pc : Nat} (h : LInv f W m) (hm : m ≤ 64) (hpc : pc < m) (hh : hasF f W pc = false) : LInv (putF f W pc) W m := by
  have hn := n_lt h hm hpc hh
  have h0 := h.n0
  refine ⟨by rw [putF_n]; omega, by rw [putF_n]; omega, fun q hq => ?_, fun k hk => ?_⟩
  · by_cases e : q = pc
    · subst e
      have : putF f W q (W * 130 + 64 + q) = f (W * 130 + 128) := by simp [putF, upd, show W * 130 + 64 + q ≠ W * 130 + 128 by omega]
      rw [this]; omega
    · rw [putF_other f W pc _ (by omega) (by omega) (by omega)]; exact h.sp q hq
  · rw [putF_n] at hk
    by_cases e : (k : Int) = f (W * 130 + 128)
    · have hk' : (f (W * 130 + 128)).toNat = k := by omega
      have e1 : putF f W pc (W * 130 + k) = pc := by
        simp [putF, upd, hk', show k ≠ 128 by omega, show W * 130 + k ≠ W * 130 + 64 + pc by omega]
      have e2 : putF f W pc (W * 130 + 64 + pc) = f (W * 130 + 128) := by simp [putF, upd, show W * 130 + 64 + pc ≠ W * 130 + 128 by omega]
      rw [e1, Int.toNat_natCast, e2]
      omega
    · have hd := h.ds k (by omega)
      have hne : (f (W * 130 + k)).toNat ≠ pc := by
        intro he
        have : hasF f W pc = true := (hasF_iff h hm hpc).2 (List.mem_map.2 ⟨k, by simp only [List.mem_range]; omega, he⟩)
        rw [this] at hh; cases hh
      rw [putF_other f W pc (W * 130 + k) (by omega) (by omega) (by omega), putF_other f W pc _ (by omega) (by omega) (by omega)]
      exact hd
theorem listOf_put {f : Nat → Int} {W m pc : Nat} (h : LInv f W m) (hm : m ≤ 64) (hpc : pc < m) (hh : hasF f W pc = false) : listOf (putF f W pc) W = listOf f W ++ [pc] := by
  have hn := n_lt h hm hpc hh
  have h0 := h.n0
  unfold listOf
  rw [putF_n, show (f (W * 130 + 128) + 1).toNat = (f (W * 130 + 128)).toNat + 1 by omega, List.range_succ, List.map_append]
  congr 1
  · refine List.map_congr_left fun k hk => ?_
    simp only [List.mem_range] at hk
    rw [putF_other f W pc (W * 130 + k) (by omega) (by omega) (by omega)]
  · simp [putF, upd, show (f (W * 130 + 128)).toNat ≠ 128 by omega, show W * 130 + (f (W * 130 + 128)).toNat ≠ W * 130 + 64 + pc by omega]

def frOK (m : Nat) (a b : Int) : Prop := (b = -1 ∧ 0 ≤ a ∧ a < m) ∨ (0 ≤ b ∧ b < 8)
structure SInv (m : Nat) (b : Int) (s : PS) : Prop where
  h0 : 0 ≤ s.f 261
  h1 : s.f 261 ≤ b
  fr : ∀ j : Nat, (j : Int) < s.f 261 → frOK m (s.k (j * 3)) (s.k (j * 3 + 1))
theorem pushS_f (s : PS) (a b c : Int) (o : Nat) (h : o ≠ 261) : (pushS s a b c).f o = s.f o := by simp [pushS, upd, h]
theorem pushS_sp (s : PS) (a b c : Int) : (pushS s a b c).f 261 = s.f 261 + 1 := by simp [pushS, upd]
theorem SInv.push {m : Nat} {b : Int} {s : PS} (h : SInv m b s) {a c : Int} (d : Int) (hf : frOK m a c) : SInv m (b + 1) (pushS s a c d) := by
  have h0 := h.h0
  have h1 := h.h1
  refine ⟨by rw [pushS_sp]; omega, by rw [pushS_sp]; omega, fun j hj => ?_⟩
  rw [pushS_sp] at hj
  obtain ⟨sp, hsp⟩ := Int.eq_ofNat_of_zero_le h0
  have hk : (pushS s a c d).k = pushK s.k sp a c d := by simp [pushS, hsp]
  rw [hk]
  by_cases e : j = sp
  · subst e; simpa [pushK, upd] using hf
  · have := h.fr j (by omega)
    simpa [pushK, upd, show j * 3 ≠ sp * 3 + 2 by omega, show j * 3 ≠ sp * 3 + 1 by omega, show j * 3 ≠ sp * 3 by omega, show j * 3 + 1 ≠ sp * 3 + 2 by omega, show j * 3 + 1 ≠ sp * 3 by omega, show j ≠ sp by omega] using this
theorem SInv.of {m : Nat} {b b' : Int} {s s' : PS} (h : SInv m b s) (hf : s'.f 261 = s.f 261) (hk : s'.k = s.k) (hb : b ≤ b') : SInv m b' s' :=
  ⟨by rw [hf]; exact h.h0, by rw [hf]; have := h.h1; omega, fun j hj => by rw [hk]; rw [hf] at hj; exact h.fr j hj⟩

def addTurn (p : List In) (size : Int) (W : Nat) (at_ : Int) (s : PS) : PS :=
  let s1 : PS := { s with f := upd (upd s.f 265 (s.f 265 + 1)) 261 (s.f 261 - 1) }
  let j := (s.f 261 - 1).toNat
  if s.k (j * 3 + 1) ≠ -1 then { s1 with r := upd s.r (s.k (j * 3 + 1)).toNat (s.k (j * 3 + 2)) }
  else if hasF s1.f W (s.k (j * 3)).toNat then s1
  else followS p size W (s.k (j * 3)).toNat at_ s1
structure AInv (p : List In) (W : Nat) (s : PS) : Prop where
  l : LInv s.f W p.length
  s : SInv p.length (1 + s.f (W * 130 + 128)) s
def amu (W : Nat) (s : PS) : Nat := (3 * (64 - s.f (W * 130 + 128)) + s.f 261).toNat
def addRun (p : List In) (size : Int) (W : Nat) (at_ : Int) : Nat → PS → PS
  | 0, s => s
  | n + 1, s => if 0 < s.f 261 then addRun p size W at_ n (addTurn p size W at_ s) else s

theorem followS_cases (p : List In) (size : Int) (W pc : Nat) (at_ : Int) (s : PS) (hp : OkProg p) (hpc : pc < p.length) (C : PS → Prop)
    (h1 : ∀ a, 0 ≤ a → a < (p.length : Int) → C (pushS { s with f := putF s.f W pc } a (-1) 0))
    (h2 : ∀ a b, 0 ≤ a → a < (p.length : Int) → 0 ≤ b → b < (p.length : Int) → C (pushS (pushS { s with f := putF s.f W pc } b (-1) 0) a (-1) 0))
    (h3 : ∀ k : Nat, 2 ≤ k → k < 8 → pc + 1 < p.length → C (pushS { (pushS { s with f := putF s.f W pc } 0 k (s.r k)) with r := upd s.r k at_ } (pc + 1) (-1) 0))
    (h4 : C { s with f := putF s.f W pc })
    (h5 : C { s with f := putF s.f W pc, g := updG s.g W (cpy (s.g W) ((s.f (W * 130 + 128)).toNat * 8) s.r 0 8) }) :
    C (followS p size W pc at_ s) := by
  unfold followS
  have e : p[pc]? = some p[pc] := by simp [hpc]
  simp only [e]
  have hi := hp.all pc hpc
  generalize p[pc] = i at hi
  unfold okIn at hi
  split
  · exact h1 i.x (by omega) (by omega)
  · split
    · exact h2 i.x i.y (by omega) (by omega) (by omega) (by omega)
    · split
      · have := h3 i.x.toNat (by omega) (by omega) (by omega)
        simpa [pushS, show max i.x 0 = i.x by omega] using this
      · split
        · split
          · exact h1 _ (by omega) (by omega)
          · exact h4
        · split
          · split
            · exact h1 _ (by omega) (by omega)
            · exact h4
          · exact h5

theorem AInv.turn {p : List In} {W : Nat} {s : PS} (hp : OkProg p) (hW : W < 2) (h : AInv p W s) (size at_ : Int) (hpos : 0 < s.f 261) :
    AInv p W (addTurn p size W at_ s) ∧ amu W (addTurn p size W at_ s) < amu W s := by
  have hm := hp.max
  have h1 := h.s.h1
  have n0 := h.l.n0
  have n1 := h.l.n1
  obtain ⟨j, hj⟩ : ∃ j : Nat, s.f 261 = (j : Int) + 1 := ⟨(s.f 261 - 1).toNat, by omega⟩
  have hj' : (s.f 261 - 1).toNat = j := by omega
  have hfr := h.s.fr j (by omega)
  unfold addTurn
  simp only [hj']
  have lf : ∀ o, W * 130 ≤ o → o < W * 130 + 129 → upd (upd s.f 265 (s.f 265 + 1)) 261 (s.f 261 - 1) o = s.f o := fun o h1 h2 => by
    simp [upd, show o ≠ 261 by omega, show o ≠ 265 by omega]
  have l1 : LInv (upd (upd s.f 265 (s.f 265 + 1)) 261 (s.f 261 - 1)) W p.length := h.l.congr hm lf
  have n128 : upd (upd s.f 265 (s.f 265 + 1)) 261 (s.f 261 - 1) (W * 130 + 128) = s.f (W * 130 + 128) := lf _ (by omega) (by omega)
  have sp1 : upd (upd s.f 265 (s.f 265 + 1)) 261 (s.f 261 - 1) 261 = s.f 261 - 1 := by simp [upd]
  have s1 : SInv p.length (s.f (W * 130 + 128)) { s with f := upd (upd s.f 265 (s.f 265 + 1)) 261 (s.f 261 - 1) } :=
    ⟨by simp only [sp1]; omega, by simp only [sp1]; omega, fun i hi => by simp only [sp1] at hi; exact h.s.fr i (by omega)⟩
  split
  · refine ⟨⟨l1, s1.of rfl rfl (by simp only [n128]; omega)⟩, ?_⟩
    simp only [amu, n128, sp1]; omega
  · rename_i hslot
    have hpc : 0 ≤ s.k (j * 3) ∧ s.k (j * 3) < p.length := by unfold frOK at hfr; omega
    split
    · refine ⟨⟨l1, s1.of rfl rfl (by simp only [n128]; omega)⟩, ?_⟩
      simp only [amu, n128, sp1]; omega
    · rename_i hh
      have hh' : hasF (upd (upd s.f 265 (s.f 265 + 1)) 261 (s.f 261 - 1)) W (s.k (j * 3)).toNat = false := by simpa using hh
      have hpc' : (s.k (j * 3)).toNat < p.length := by omega
      have l2 := l1.put hm hpc' hh'
      have hn2 := n_lt l1 hm hpc' hh'
      rw [n128] at hn2
      have m1 := putF_n (upd (upd s.f 265 (s.f 265 + 1)) 261 (s.f 261 - 1)) W (s.k (j * 3)).toNat
      rw [n128] at m1
      have m2 := putF_261 (upd (upd s.f 265 (s.f 265 + 1)) 261 (s.f 261 - 1)) W (s.k (j * 3)).toNat hW (by omega) (by rw [n128]; omega)
      rw [sp1] at m2
      have s2 : SInv p.length (s.f (W * 130 + 128)) { s with f := putF (upd (upd s.f 265 (s.f 265 + 1)) 261 (s.f 261 - 1)) W (s.k (j * 3)).toNat } := s1.of (by simp only [m2, sp1]) rfl (by omega)
      have lp : ∀ (t : PS) (a b c : Int), LInv t.f W p.length → LInv (pushS t a b c).f W p.length := fun t a b c ht => ht.congr hm fun o h1 h2 => pushS_f t a b c o (by omega)
      have np : ∀ (t : PS) (a b c : Int), (pushS t a b c).f (W * 130 + 128) = t.f (W * 130 + 128) := fun t a b c => pushS_f t a b c _ (by omega)
      refine followS_cases p size W (s.k (j * 3)).toNat at_ _ hp hpc' (fun t => AInv p W t ∧ amu W t < amu W s) ?_ ?_ ?_ ?_ ?_
      · intro a ha hb
        refine ⟨⟨lp _ _ _ _ l2, (s2.push 0 (.inl ⟨rfl, ha, hb⟩)).of rfl rfl (by simp only [np, m1]; omega)⟩, ?_⟩
        simp only [amu, np, pushS_sp, m1, m2]; omega
      · intro a b ha hb hc hd
        refine ⟨⟨lp _ _ _ _ (lp _ _ _ _ l2), ((s2.push 0 (.inl ⟨rfl, hc, hd⟩)).push 0 (.inl ⟨rfl, ha, hb⟩)).of rfl rfl (by simp only [np, m1]; omega)⟩, ?_⟩
        simp only [amu, np, pushS_sp, m1, m2]; omega
      · intro k hk1 hk2 hk3
        refine ⟨⟨lp { (pushS { s with f := putF (upd (upd s.f 265 (s.f 265 + 1)) 261 (s.f 261 - 1)) W (s.k (j * 3)).toNat } 0 k (s.r k)) with r := upd s.r k at_ } _ _ _ (lp { s with f := putF (upd (upd s.f 265 (s.f 265 + 1)) 261 (s.f 261 - 1)) W (s.k (j * 3)).toNat } 0 k (s.r k) l2), ?_⟩, ?_⟩
        · refine (((s2.push (a := 0) (c := k) (s.r k) (.inr ⟨by omega, by omega⟩)).of (s' := { (pushS { s with f := putF (upd (upd s.f 265 (s.f 265 + 1)) 261 (s.f 261 - 1)) W (s.k (j * 3)).toNat } 0 k (s.r k)) with r := upd s.r k at_ }) rfl rfl (Int.le_refl _)).push 0 (.inl ⟨rfl, by omega, by omega⟩)).of rfl rfl ?_
          simp only [np, m1]; omega
        · simp only [amu, np, pushS_sp, m1, m2]; omega
      · refine ⟨⟨l2, s2.of rfl rfl (by simp only [m1]; omega)⟩, ?_⟩
        simp only [amu, m1, m2]; omega
      · refine ⟨⟨l2, s2.of rfl rfl (by simp only [m1]; omega)⟩, ?_⟩
        simp only [amu, m1, m2]; omega
end Go.Proofs.Qxb6500283aGreat
