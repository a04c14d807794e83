import Derived.Test.Qxb6500283aGreatPkDfs2
namespace Go.Proofs.Qxb6500283aGreat
open Go Go.RowKit


section
variable {p : List In} {str : ByteArray}
def mapT (φ : (Nat → Int) → Nat → Int) (t : Nat × Nat × (Nat → Int)) : Nat × Nat × (Nat → Int) := (t.1, t.2.1, φ t.2.2)
theorem succ_map (hp : OkProg p) {φ : (Nat → Int) → Nat → Int} (hφ : ∀ c k (i : Nat), 2 ≤ k → k < 8 → φ (upd c k (i : Int)) = upd (φ c) k i) (pc i : Nat) (c : Nat → Int) : succ p str pc i (φ c) = (succ p str pc i c).map (mapT φ) := by
  unfold succ
  by_cases hpc : pc < p.length
  · have hx : p[pc]? = some p[pc] := by simp [hpc]
    have ho := hp.all pc hpc
    rw [hx]
    unfold okIn at ho
    simp only
    repeat' split
    all_goals first | rfl | skip
    rename_i h3
    have : 2 ≤ p[pc].x ∧ p[pc].x < 8 := by omega
    simp only [List.map_cons, List.map_nil, mapT]
    rw [hφ c p[pc].x.toNat i (by omega) (by omega)]
  · have hx : p[pc]? = none := by simp [hpc]
    rw [hx]; rfl
theorem dfs_map (hp : OkProg p) {φ : (Nat → Int) → Nat → Int} (hφ : ∀ c k (i : Nat), 2 ≤ k → k < 8 → φ (upd c k (i : Int)) = upd (φ c) k i) : ∀ (f : Nat) (S : List (Nat × Nat × (Nat → Int))) (sn : Nat → Nat → Bool),
    dfs p str f (S.map (mapT φ)) sn = (dfs p str f S sn).map fun x => (x.1.map fun r => (φ r.1, r.2), x.2)
  | 0, _, _ => by simp [dfs]
  | f + 1, [], sn => by simp [dfs]
  | f + 1, (pc, i, c) :: S, sn => by
    rw [List.map_cons, show mapT φ (pc, i, c) = (pc, i, φ c) from rfl, dfs, dfs]
    split
    · exact dfs_map hp hφ f S sn
    · split
      · simp
      · rw [succ_map hp hφ, ← List.map_append]
        exact dfs_map hp hφ f _ _

/-- The two tables of seen states agree. -/
def Agree (p : List In) (str : ByteArray) (s2 : Nat → Nat → Bool) (sn : Nat → Bool) : Prop := ∀ q, q < p.length → ∀ j, j ≤ str.size → s2 j q = sn (q * (str.size + 1) + j)
theorem Agree.mark {s2 : Nat → Nat → Bool} {sn : Nat → Bool} (h : Agree p str s2 sn) {pc i : Nat} (hi : i ≤ str.size) : Agree p str (mark s2 pc i) (upd sn (pc * (str.size + 1) + i) true) := by
  intro q hq j hj
  by_cases e : j = i ∧ q = pc
  · obtain ⟨rfl, rfl⟩ := e
    rw [mark_same, upd_same]
  · have hne : q * (str.size + 1) + j ≠ pc * (str.size + 1) + i := by
      intro he
      have h1 : (q * (str.size + 1) + j) % (str.size + 1) = (pc * (str.size + 1) + i) % (str.size + 1) := by rw [he]
      have h2 : (q * (str.size + 1) + j) / (str.size + 1) = (pc * (str.size + 1) + i) / (str.size + 1) := by rw [he]
      rw [Nat.mul_add_mod', Nat.mul_add_mod', Nat.mod_eq_of_lt (by omega), Nat.mod_eq_of_lt (by omega)] at h1
      rw [Nat.mul_comm q, Nat.mul_comm pc, Nat.mul_add_div (by omega), Nat.mul_add_div (by omega), Nat.div_eq_of_lt (by omega), Nat.div_eq_of_lt (by omega)] at h2
      exact e ⟨h1, by omega⟩
    rw [upd_other _ _ _ _ hne, ← h q hq j hj]
    cases hs : s2 j q with
    | true => exact mark_mono _ _ hs
    | false =>
      cases hm : Go.Proofs.Qxb6500283aGreat.mark s2 pc i j q with
      | false => rfl
      | true =>
        rcases mark_cases hm with h3 | h3
        · rw [hs] at h3; cases h3
        · exact absurd h3 e

def resOf (R : RoadR) : Option ((Nat → Int) × Nat) := if R.ok then some (R.c, R.e.toNat) else none
theorem road_dfs (hp : OkProg p) : ∀ (fuel pc i : Nat) (c : Nat → Int) (sn : Nat → Bool) (s2 : Nat → Nat → Bool), pc < p.length → i ≤ str.size → Agree p str s2 sn → unseen sn (p.length * (str.size + 1)) < fuel →
    ∃ f s2', dfs p str f [(pc, i, c)] s2 = some (resOf (roadS p str fuel pc i c sn), s2') ∧ Agree p str s2' (roadS p str fuel pc i c sn).sn ∧ ((roadS p str fuel pc i c sn).ok = true → 0 ≤ (roadS p str fuel pc i c sn).e)
  | 0, _, _, _, _, _, _, _, _, h => by omega
  | fuel + 1, pc, i, c, sn, s2, hpc, hi, ha, hu => by
    have hkey : pc * (str.size + 1) + i < p.length * (str.size + 1) := by
      have : (pc + 1) * (str.size + 1) ≤ p.length * (str.size + 1) := Nat.mul_le_mul_right _ hpc
      rw [Nat.add_mul] at this; omega
    cases hs : sn (pc * (str.size + 1) + i) with
    | true =>
      refine ⟨2, s2, ?_, ?_, ?_⟩
      · simp [dfs, ha pc hpc i hi, hs, roadS, resOf]
      · simpa [roadS, hs] using ha
      · simp [roadS, hs]
    | false =>
      have hu1 : unseen (upd sn (pc * (str.size + 1) + i) true) (p.length * (str.size + 1)) < fuel := by
        have := unseen_upd sn (p.length * (str.size + 1)) _ hkey hs; omega
      have ha1 := ha.mark (pc := pc) hi
      have hx : p[pc]? = some p[pc] := by simp [hpc]
      have ho := hp.all pc hpc
      have hs2 : s2 i pc = false := by rw [ha pc hpc i hi, hs]
      have one : ∀ (q j : Nat) (d : Nat → Int), isM p pc = false → succ p str pc i c = [(q, j, d)] → q < p.length → j ≤ str.size → roadS p str (fuel + 1) pc i c sn = roadS p str fuel q j d (upd sn (pc * (str.size + 1) + i) true) →
          ∃ f s2', dfs p str f [(pc, i, c)] s2 = some (resOf (roadS p str (fuel + 1) pc i c sn), s2') ∧ Agree p str s2' (roadS p str (fuel + 1) pc i c sn).sn ∧ ((roadS p str (fuel + 1) pc i c sn).ok = true → 0 ≤ (roadS p str (fuel + 1) pc i c sn).e) := by
        intro q j d hm hsu hq hj he
        obtain ⟨f, s2', h1, h2, h3⟩ := road_dfs hp fuel q j d _ _ hq hj ha1 hu1
        rw [he]
        exact ⟨f + 1, s2', by simp [dfs, hs2, hm, hsu, h1], h2, h3⟩
      have dead : isM p pc = false → succ p str pc i c = [] → roadS p str (fuel + 1) pc i c sn = ⟨false, c, 0, upd sn (pc * (str.size + 1) + i) true⟩ →
          ∃ f s2', dfs p str f [(pc, i, c)] s2 = some (resOf (roadS p str (fuel + 1) pc i c sn), s2') ∧ Agree p str s2' (roadS p str (fuel + 1) pc i c sn).sn ∧ ((roadS p str (fuel + 1) pc i c sn).ok = true → 0 ≤ (roadS p str (fuel + 1) pc i c sn).e) := by
        intro hm hsu he
        rw [he]
        exact ⟨2, mark s2 pc i, by simp [dfs, hs2, hm, hsu, resOf], ha1, by simp⟩
      unfold okIn at ho
      by_cases o0 : p[pc].op = 0
      · have hm : isM p pc = false := by simp [isM, hx, o0]
        by_cases hc : i < str.size ∧ hasB p[pc].s0 p[pc].s1 p[pc].s2 p[pc].s3 (bt str i) = true
        · exact one (pc + 1) (i + 1) c hm (by simp [succ, hx, o0, hc]) (by omega) (by omega) (by simp [roadS, hs, hx, o0, hc])
        · exact dead hm (by simp [succ, hx, o0]; intro a; simpa using fun b => hc ⟨a, b⟩) (by
            rw [roadS]; simp [hs, hx, o0, hc])
      by_cases o1 : p[pc].op = 1
      · have hm : isM p pc = false := by simp [isM, hx, o1]
        have hr : roadS p str (fuel + 1) pc i c sn = (if (roadS p str fuel p[pc].x.toNat i c (upd sn (pc * (str.size + 1) + i) true)).ok then roadS p str fuel p[pc].x.toNat i c (upd sn (pc * (str.size + 1) + i) true)
            else roadS p str fuel p[pc].y.toNat i c (roadS p str fuel p[pc].x.toNat i c (upd sn (pc * (str.size + 1) + i) true)).sn) := by
          rw [roadS]; simp [hs, hx, o1]
        have hsu : succ p str pc i c = [(p[pc].x.toNat, i, c)] ++ [(p[pc].y.toNat, i, c)] := by simp [succ, hx, o1]
        obtain ⟨f, s2', h1, h2, h3⟩ := road_dfs hp fuel p[pc].x.toNat i c _ _ (by omega) hi ha1 hu1
        cases hok : (roadS p str fuel p[pc].x.toNat i c (upd sn (pc * (str.size + 1) + i) true)).ok with
        | true =>
          rw [hr, if_pos hok]
          have h4 : resOf (roadS p str fuel p[pc].x.toNat i c (upd sn (pc * (str.size + 1) + i) true)) = some ((roadS p str fuel p[pc].x.toNat i c (upd sn (pc * (str.size + 1) + i) true)).c, (roadS p str fuel p[pc].x.toNat i c (upd sn (pc * (str.size + 1) + i) true)).e.toNat) := by simp [resOf, hok]
          refine ⟨f + 1, s2', ?_, h2, h3⟩
          rw [h4] at h1 ⊢
          rw [dfs, if_neg (by simp [hs2]), hm, hsu, List.append_nil]
          simpa using dfs_hit f _ [(p[pc].y.toNat, i, c)] _ _ h1
        | false =>
          rw [hr, if_neg (by simp [hok])]
          have h4 : resOf (roadS p str fuel p[pc].x.toNat i c (upd sn (pc * (str.size + 1) + i) true)) = none := by simp [resOf, hok]
          rw [h4] at h1
          have hu2 : unseen (roadS p str fuel p[pc].x.toNat i c (upd sn (pc * (str.size + 1) + i) true)).sn (p.length * (str.size + 1)) < fuel :=
            Nat.lt_of_le_of_lt (unseen_mono _ (roadS_mono p str fuel _ _ _ _)) hu1
          obtain ⟨g, s3', g1, g2, g3⟩ := road_dfs hp fuel p[pc].y.toNat i c _ _ (by omega) hi h2 hu2
          refine ⟨f + g + 1, s3', ?_, g2, g3⟩
          rw [dfs, if_neg (by simp [hs2]), hm, hsu, List.append_nil]
          simpa using dfs_seq f g _ _ _ _ h1 g1
      by_cases o2 : p[pc].op = 2
      · exact one p[pc].x.toNat i c (by simp [isM, hx, o2]) (by simp [succ, hx, o2]) (by omega) hi (by rw [roadS]; simp [hs, hx, o2])
      by_cases o3 : p[pc].op = 3
      · exact one (pc + 1) i (upd c p[pc].x.toNat i) (by simp [isM, hx, o3]) (by simp [succ, hx, o3]) (by omega) hi (by rw [roadS]; simp [hs, hx, o3])
      by_cases o4 : p[pc].op = 4
      · by_cases hc : i = 0
        · exact one (pc + 1) i c (by simp [isM, hx, o4]) (by simp [succ, hx, o4, hc]) (by omega) hi (by rw [roadS]; simp only [hs, hx, Bool.false_eq_true, if_false]; rw [if_neg o0, if_neg o1, if_neg o2, if_neg o3, if_pos o4, if_pos hc])
        · exact dead (by simp [isM, hx, o4]) (by simp [succ, hx, o4, hc]) (by rw [roadS]; simp [hs, hx, o4, hc])
      by_cases o5 : p[pc].op = 5
      · by_cases hc : i = str.size
        · exact one (pc + 1) i c (by simp [isM, hx, o5]) (by simp [succ, hx, o5, hc]) (by omega) hi (by rw [roadS]; simp only [hs, hx, Bool.false_eq_true, if_false]; rw [if_neg o0, if_neg o1, if_neg o2, if_neg o3, if_neg o4, if_pos o5, if_pos hc])
        · exact dead (by simp [isM, hx, o5]) (by simp [succ, hx, o5, hc]) (by rw [roadS]; simp [hs, hx, o5, hc])
      have o6 : p[pc].op = 6 := by omega
      have he : roadS p str (fuel + 1) pc i c sn = ⟨true, c, i, upd sn (pc * (str.size + 1) + i) true⟩ := by
        rw [roadS]; simp [hs, hx, o6]
      rw [he]
      refine ⟨1, mark s2 pc i, ?_, ha1, by simp⟩
      simp [dfs, hs2, isM, hx, o6, resOf]
end
end Go.Proofs.Qxb6500283aGreat
