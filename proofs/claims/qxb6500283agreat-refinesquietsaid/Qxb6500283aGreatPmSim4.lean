import Derived.Test.Qxb6500283aGreatPmSim3
namespace Go.Proofs.Qxb6500283aGreat
open Go Go.RowKit

structure LRel (p : List In) (W : Nat) (s : PS) (V : List (Nat × (Nat → Int))) : Prop where
  vs : listOf s.f W = V.map Prod.fst
  nv : ∀ t ∈ V, Norm t.2
  row : ∀ idx (h : idx < V.length), isLeaf p V[idx].1 = true → ∀ j, j < 8 → s.g W (idx * 8 + j) = V[idx].2 j
theorem Rel.toL {p : List In} {W : Nat} {s : PS} {S V : List (Nat × (Nat → Int))} (h : Rel p W s S V) : LRel p W s V := ⟨h.vs, h.nv, h.row⟩
theorem LRel.congr {p : List In} {W m : Nat} {s t : PS} {V : List (Nat × (Nat → Int))} (h : LRel p W s V) (hl : LInv s.f W m) (hm : m ≤ 64) (hf : ∀ o, W * 130 ≤ o → o < W * 130 + 129 → t.f o = s.f o) (hg : t.g W = s.g W) : LRel p W t V := by
  have := hl.n1
  exact ⟨by rw [listOf_congr (by omega) hf]; exact h.vs, h.nv, by rw [hg]; exact h.row⟩
theorem LRel.len {p : List In} {W : Nat} {s : PS} {V : List (Nat × (Nat → Int))} (h : LRel p W s V) : V.length = (s.f (W * 130 + 128)).toNat := by
  have := congrArg List.length h.vs
  rw [listOf_length, List.length_map] at this
  exact this.symm
theorem LRel.at {p : List In} {W : Nat} {s : PS} {V : List (Nat × (Nat → Int))} (h : LRel p W s V) (k : Nat) (hk : k < V.length) : (s.f (W * 130 + k)).toNat = V[k].1 := by
  have hl := h.len
  have h1 : (listOf s.f W)[k]? = some (s.f (W * 130 + k)).toNat := by simp [listOf, show k < (s.f (W * 130 + 128)).toNat by omega]
  rw [h.vs] at h1
  simp [hk] at h1
  exact h1.symm

section
variable {p : List In} {str : ByteArray} {i : Nat}
theorem cloRun_mono : ∀ (f : Nat) (S V : List (Nat × (Nat → Int))) {V'}, cloRun p str i f S V = some V' → cloRun p str i (f + 1) S V = some V'
  | 0, _, _, _, h => by simp [cloRun] at h
  | f + 1, [], V, V', h => by simpa [cloRun] using h
  | f + 1, (pc, c) :: S, V, V', h => by
    rw [cloRun] at h ⊢
    split
    · rename_i h1; rw [if_pos h1] at h; exact cloRun_mono f _ _ h
    · rename_i h1; rw [if_neg h1] at h; exact cloRun_mono f _ _ h
theorem cloRun_le {f g : Nat} {S V V' : List (Nat × (Nat → Int))} (hfg : f ≤ g) (h : cloRun p str i f S V = some V') : cloRun p str i g S V = some V' := by
  induction hfg with
  | refl => exact h
  | step _ ih => exact cloRun_mono _ _ _ ih
theorem cloRun_seq : ∀ (f g : Nat) (S T V V1 : List (Nat × (Nat → Int))) {V2}, cloRun p str i f S V = some V1 → cloRun p str i g T V1 = some V2 → cloRun p str i (f + g) (S ++ T) V = some V2
  | 0, _, _, _, _, _, _, h, _ => by simp [cloRun] at h
  | f + 1, g, [], T, V, V1, V2, h, k => by
    simp only [cloRun, Option.some.injEq] at h
    subst h
    exact cloRun_le (by omega) k
  | f + 1, g, (pc, c) :: S, T, V, V1, V2, h, k => by
    rw [cloRun] at h
    rw [show f + 1 + g = (f + g) + 1 by omega, List.cons_append, cloRun]
    split
    · rename_i h1; rw [if_pos h1] at h; exact cloRun_seq f g S T V V1 h k
    · rename_i h1; rw [if_neg h1] at h
      rw [← List.append_assoc]
      exact cloRun_seq f g _ T _ V1 h k

def nchar (p : List In) (V : List (Nat × (Nat → Int))) : Nat := (V.filter fun t => match p[t.1]? with | none => false | some x => decide (x.op = 0)).length

theorem step_sim (hp : OkProg p) {W : Nat} (hW : W < 2) (V : List (Nat × (Nat → Int))) : ∀ (m k : Nat) (st : PS) (VO : List (Nat × (Nat → Int))), k + m = V.length → LInv st.f W p.length → LInv st.f (1 - W) p.length → LRel p W st V → LRel p (1 - W) st VO → st.f 261 = 0 →
    ∃ f VO', cloRun p str (i + 1) f (cut p str i (V.drop k)).1 VO = some VO' ∧ LRel p (1 - W) (stepFrom p str W i m k st).2 VO' ∧ LInv (stepFrom p str W i m k st).2.f W p.length ∧ LInv (stepFrom p str W i m k st).2.f (1 - W) p.length ∧
      (stepFrom p str W i m k st).2.f 261 = 0 ∧ (stepFrom p str W i m k st).1 = (cut p str i (V.drop k)).2.isSome ∧
      (∀ c, (cut p str i (V.drop k)).2 = some c → ∀ j, j < 8 → (stepFrom p str W i m k st).2.b j = upd c 1 i j) ∧ ((cut p str i (V.drop k)).2 = none → (stepFrom p str W i m k st).2.b = st.b) ∧
      st.f 265 ≤ (stepFrom p str W i m k st).2.f 265 ∧
      (stepFrom p str W i m k st).2.f 265 ≤ st.f 265 + m + nchar p (V.drop k) + 2 * ((stepFrom p str W i m k st).2.f ((1 - W) * 130 + 128) - st.f ((1 - W) * 130 + 128))
  | 0, k, st, VO, hkm, hlW, hlO, hrW, hrO, hsp => by
    have : V.drop k = [] := List.drop_eq_nil_of_le (by omega)
    rw [this]
    simp only [stepFrom, cut, nchar]
    exact ⟨1, VO, rfl, hrO, hlW, hlO, hsp, rfl, (fun c h => by cases h), (fun _ => trivial), Int.le_refl _, by simp⟩
  | m + 1, k, st, VO, hkm, hlW, hlO, hrW, hrO, hsp => by
    have hm := hp.max
    have hk : k < V.length := by omega
    have hat := hrW.at k hk
    have hpc : V[k].1 < p.length := by
      have := hlW.ds k (by have := hrW.len; omega)
      omega
    have hx : p[V[k].1]? = some p[V[k].1] := by simp [hpc]
    have hdrop : V.drop k = V[k] :: V.drop (k + 1) := (List.drop_eq_getElem_cons hk)
    have hcons : V[k] = (V[k].1, V[k].2) := rfl
    have f5 : ∀ o, o ≠ 265 → upd st.f 265 (st.f 265 + 1) o = st.f o := fun o h => by simp [upd, h]
    have hlW1 : LInv (upd st.f 265 (st.f 265 + 1)) W p.length := hlW.congr hm fun o h1 h2 => f5 o (by omega)
    have hlO1 : LInv (upd st.f 265 (st.f 265 + 1)) (1 - W) p.length := hlO.congr hm fun o h1 h2 => f5 o (by omega)
    have hrW1 : LRel p W { st with f := upd st.f 265 (st.f 265 + 1) } V := hrW.congr hlW hm (fun o h1 h2 => f5 o (by omega)) rfl
    have hrO1 : LRel p (1 - W) { st with f := upd st.f 265 (st.f 265 + 1) } VO := hrO.congr hlO hm (fun o h1 h2 => f5 o (by omega)) rfl
    simp only [stepFrom, hat, hx]
    by_cases o6 : p[V[k].1].op = 6
    · have hM : isM p V[k].1 = true := by simp [isM, hx, o6]
      have hcut : cut p str i (V.drop k) = ([], some V[k].2) := by rw [hdrop, hcons, cut, if_pos hM]
      rw [if_pos o6, hcut]
      refine ⟨1, VO, rfl, ⟨hrO1.vs, hrO1.nv, hrO1.row⟩, hlW1, hlO1, by simp [upd, hsp], rfl, ?_, (fun h => by cases h), by simp [upd]; omega, ?_⟩
      · intro c hc j hj
        simp only [Option.some.injEq] at hc
        subst hc
        by_cases h1 : j = 1
        · subst h1; simp [upd]
        · have := hrW.row k hk (by simp [isLeaf, hx, o6]) j hj
          simp [upd, h1, cpy, hj, this]
      · simp [upd, show (1 - W) * 130 + 128 ≠ 265 by omega]; omega
    · have hM : isM p V[k].1 = false := by simp [isM, hx, o6]
      have hcut : cut p str i (V.drop k) = (chars p str i V[k].1 V[k].2 ++ (cut p str i (V.drop (k + 1))).1, (cut p str i (V.drop (k + 1))).2) := by
        rw [hdrop, hcons, cut, if_neg (by simp [hM])]
      rw [if_neg o6]
      have hnc : nchar p (V.drop k) = nchar p (V.drop (k + 1)) + (if p[V[k].1].op = 0 then 1 else 0) := by
        rw [hdrop]
        simp only [nchar, List.filter_cons, hx]
        by_cases o0 : p[V[k].1].op = 0
        · simp [o0]
        · simp [o0]
      rw [hcut]
      by_cases hc : p[V[k].1].op = 0 ∧ i < str.size ∧ hasB p[V[k].1].s0 p[V[k].1].s1 p[V[k].1].s2 p[V[k].1].s3 (bt str i) = true
      · rw [if_pos hc]
        have hch : chars p str i V[k].1 V[k].2 = [(V[k].1 + 1, V[k].2)] := by simp only [chars, hx]; rw [if_pos hc]
        rw [hnc, if_pos hc.1, hch]
        have hpc1 : V[k].1 + 1 < p.length := by
          have := hp.all _ hpc
          unfold okIn at this
          omega
        have hnm : nm (cpy st.r 0 (st.g W) (k * 8) 8) = V[k].2 := nm_eq (hrW.nv _ (List.getElem_mem hk)) fun j hj => by
          have := hrW.row k hk (by simp [isLeaf, hx, hc.1]) j hj
          simp [cpy, hj, this]
        obtain ⟨t, ht⟩ : ∃ t : PS, t = { st with f := upd st.f 265 (st.f 265 + 1), r := cpy st.r 0 (st.g W) (k * 8) 8 } := ⟨_, rfl⟩
        have htW : LInv t.f W p.length := by rw [ht]; exact hlW1
        have htO : LInv t.f (1 - W) p.length := by rw [ht]; exact hlO1
        have htr : nm t.r = V[k].2 := by rw [ht]; exact hnm
        have htO2 : LRel p (1 - W) t VO := by rw [ht]; exact ⟨hrO1.vs, hrO1.nv, hrO1.row⟩
        have htW2 : LRel p W t V := by rw [ht]; exact ⟨hrW1.vs, hrW1.nv, hrW1.row⟩
        have t5 : t.f 265 = st.f 265 + 1 := by rw [ht]; simp [upd]
        have tO : t.f ((1 - W) * 130 + 128) = st.f ((1 - W) * 130 + 128) := by rw [ht]; exact f5 _ (by omega)
        have tb : t.b = st.b := by rw [ht]
        rw [← ht]
        obtain ⟨f1, V1, e1, e2⟩ := Rel.add (str := str) (i := i + 1) hp (show 1 - W < 2 by omega) hpc1 htO htO2.vs htO2.nv htO2.row
        obtain ⟨a1, a2, a3, a4, _⟩ := addS_spec (V := W) (size := str.size) (at_ := ((i + 1 : Nat) : Int)) (s := t) hp (show 1 - W < 2 by omega) hW (by omega) htO hpc1
        have g := gau_add (size := str.size) (at_ := ((i + 1 : Nat) : Int)) hp (show 1 - W < 2 by omega) hpc1 htO
        have hlWa : LInv (addSM p str.size (1 - W) (V[k].1 + 1) ((i + 1 : Nat) : Int) t).f W p.length := htW.congr hm a3.c
        have hrWa : LRel p W (addSM p str.size (1 - W) (V[k].1 + 1) ((i + 1 : Nat) : Int) t) V := htW2.congr htW hm a3.c a3.g
        obtain ⟨f2, VO', b1, b2, b3, b4, b5, b6, b7, b8, b9, b10⟩ := step_sim hp hW V m (k + 1) _ V1 (by omega) hlWa a1 hrWa e2.toL a2
        rw [show ((i : Int) + 1) = ((i + 1 : Nat) : Int) by omega]
        rw [htr] at e1
        refine ⟨f1 + f2, VO', cloRun_seq f1 f2 _ _ _ _ e1 b1, b2, b3, b4, b5, b6, b7, fun h => by rw [b8 h, a3.b, tb], by omega, by omega⟩
      · rw [if_neg hc]
        have hch : chars p str i V[k].1 V[k].2 = [] := by simp only [chars, hx]; rw [if_neg hc]
        rw [hnc, hch, List.nil_append]
        obtain ⟨f2, VO', b1, b2, b3, b4, b5, b6, b7, b8, b9, b10⟩ := step_sim hp hW V m (k + 1) { st with f := upd st.f 265 (st.f 265 + 1) } VO (by omega) hlW1 hlO1 hrW1 hrO1 (by simp [upd, hsp])
        have t5 : upd st.f 265 (st.f 265 + 1) 265 = st.f 265 + 1 := by simp [upd]
        have tO := f5 ((1 - W) * 130 + 128) (by omega)
        simp only [t5, tO] at b9 b10
        refine ⟨f2, VO', b1, b2, b3, b4, b5, b6, b7, b8, by omega, ?_⟩
        split <;> omega
end
end Go.Proofs.Qxb6500283aGreat
