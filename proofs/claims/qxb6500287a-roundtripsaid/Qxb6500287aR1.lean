import Derived.Test.Qxb6500287aSyn6
namespace Go.Proofs.Qxb6500287a

/-! Printing: the text of a tree. -/
def hexC (v : Nat) : Nat := if v < 10 then 48 + v else 87 + v
def byteT (c : Nat) : List Nat := [92, 120, hexC (c / 16), hexC (c % 16)]
/-- The last byte of the run that holds c. -/
def runEnd (P : BSet) : Nat → Nat → Nat
  | 0, c => c
  | f + 1, c => if c + 1 < 256 ∧ P (c + 1) = true then runEnd P f (c + 1) else c
def runT (c e : Nat) : List Nat := byteT c ++ (if c < e then 45 :: byteT e else [])
def runsT (P : BSet) : Nat → Nat → List Nat
  | 0, _ => []
  | f + 1, c => if c < 256 then (if P c = true then runT c (runEnd P (255 - c) c) ++ runsT P f (runEnd P (255 - c) c + 1) else runsT P f (c + 1)) else []
def setT (P : BSet) : List Nat := 91 :: (runsT P 256 0 ++ [93])
def wantsB (kind : Int) (pl : Nat) : Bool :=
  if kind = 5 then !(pl == 0) else if kind = 4 then (pl == 3) || (pl == 4) else if kind = 0 then (pl == 2) || (pl == 3) || (pl == 4) else false
def wrapT (b : Bool) (l : List Nat) : List Nat := if b then [40, 63, 58] ++ l ++ [41] else l
def repT (mn mx : Int) (lz : Bool) : List Nat := [123, 48 + mn.toNat, 44] ++ (if 0 ≤ mx then [48 + mx.toNat] else []) ++ [125] ++ (if lz then [63] else [])
def nd0 : Nd := ⟨0, 0, 0, 0, 0, 0, false, noP⟩
def bodyT (f : Nat → Nat → List Nat) (n : Nd) : List Nat :=
  if n.kind = 1 then setT n.st
  else if n.kind = 2 then [94]
  else if n.kind = 3 then [36]
  else if n.kind = 4 then f n.a.toNat 2 ++ f n.b.toNat 3
  else if n.kind = 5 then f n.a.toNat 0 ++ [124] ++ f n.b.toNat 1
  else if n.kind = 6 then f n.a.toNat 4 ++ repT n.mn n.mx n.lz
  else if n.kind = 7 then [40] ++ f n.a.toNat 0 ++ [41]
  else []
def prF (ns : List Nd) : Nat → Nat → Nat → List Nat
  | 0, _, _ => []
  | f + 1, x, pl => wrapT (wantsB (ns.getD x nd0).kind pl) (bodyT (prF ns f) (ns.getD x nd0))
def pr (ns : List Nd) (x pl : Nat) : List Nat := prF ns (x + 1) x pl
theorem bodyT_congr {f g : Nat → Nat → List Nat} {n : Nd} {k : Nat} (hn : okNd k n) (h : ∀ a pl, a < k → f a pl = g a pl) : bodyT f n = bodyT g n := by
  unfold bodyT
  rcases hn with ⟨hk, _, _⟩ | ⟨hk, h1, h2, h3, h4⟩ | ⟨hk, h1, h2, _⟩
  · rcases hk with hk | hk | hk | hk <;> simp [hk]
  · rcases hk with hk | hk <;> simp [hk, h n.a.toNat _ (by omega), h n.b.toNat _ (by omega)]
  · rcases hk with hk | hk <;> simp [hk, h n.a.toNat _ (by omega)]
theorem prF_fuel {ns : List Nd} (hwf : WF ns) : ∀ x, x < ns.length → ∀ f pl, x < f → prF ns f x pl = pr ns x pl := by
  intro x
  induction x using Nat.strongRecOn with
  | ind x ih =>
    intro hx f pl hf
    cases f with
    | zero => omega
    | succ f =>
      unfold pr
      have hok := hwf x hx
      have hg : ns.getD x nd0 = ns[x] := by simp [hx]
      simp only [prF, hg]
      congr 1
      refine bodyT_congr hok fun a pl' ha => ?_
      rw [ih a ha (by omega) f pl' (by omega), ih a ha (by omega) x pl' ha]
theorem pr_eq {ns : List Nd} (hwf : WF ns) {x : Nat} (hx : x < ns.length) (pl : Nat) : pr ns x pl = wrapT (wantsB ns[x].kind pl) (bodyT (pr ns) ns[x]) := by
  have hok := hwf x hx
  have hg : ns.getD x nd0 = ns[x] := by simp [hx]
  conv => lhs; unfold pr
  simp only [prF, hg]
  congr 1
  exact bodyT_congr hok fun a pl' ha => prF_fuel hwf a (by omega) x pl' ha
theorem pr_grow {ns : List Nd} (t : List Nd) (hwf : WF ns) (hwf' : WF (ns ++ t)) : ∀ x, x < ns.length → ∀ pl, pr (ns ++ t) x pl = pr ns x pl := by
  intro x
  induction x using Nat.strongRecOn with
  | ind x ih =>
    intro hx pl
    have hx' : x < (ns ++ t).length := by simp; omega
    rw [pr_eq hwf' hx' pl, pr_eq hwf hx pl]
    have hg : (ns ++ t)[x] = ns[x] := List.getElem_append_left hx
    rw [hg]
    congr 1
    exact bodyT_congr (hwf x hx) fun a pl' ha => ih a ha (by omega) pl'
/-! A text in a pattern. -/
def At (q : ByteArray) : Nat → List Nat → Prop
  | _, [] => True
  | i, c :: l => (i < q.size ∧ bt q i = c) ∧ At q (i + 1) l
theorem At.app {q : ByteArray} : ∀ {a b : List Nat} {i : Nat}, At q i (a ++ b) ↔ At q i a ∧ At q (i + a.length) b
  | [], b, i => by simp [At]
  | c :: a, b, i => by
    simp only [List.cons_append, At, List.length_cons]
    rw [At.app, show i + 1 + a.length = i + (a.length + 1) by omega]
    exact ⟨fun h => ⟨⟨h.1, h.2.1⟩, h.2.2⟩, fun h => ⟨h.1.1, h.1.2, h.2⟩⟩
/-! The sets as bytes. -/
def nmS (P : BSet) : BSet := fun c => decide (c < 256) && P c
def nm (n : Nd) : Nd := ⟨n.kind, n.a, n.b, n.mn, n.mx, n.cap, n.lz, nmS n.st⟩
theorem nmS_no : nmS noP = noP := by funext c; simp [nmS, noP]
theorem nm_cat (a b : Nat) : nm (catNd a b) = catNd a b := by simp [nm, catNd, nmS_no]
theorem nm_alt (a b : Nat) : nm (altNd a b) = altNd a b := by simp [nm, altNd, nmS_no]
theorem nm_rep (a : Nat) (lo hi : Int) (z : Bool) : nm (repNd a lo hi z) = repNd a lo hi z := by simp [nm, repNd, nmS_no]
theorem nm_grp (a c : Nat) : nm (grpNd a c) = grpNd a c := by simp [nm, grpNd, nmS_no]
theorem nul_nm (ns : List Nd) (x : Nat) : nul (ns.map nm) x = nul ns x := by
  unfold nul nulL
  rw [List.foldl_map]
  rfl
theorem hexv_hexC {v : Nat} (h : v < 16) : hexv (hexC v) = some v := by
  obtain rfl | rfl | rfl | rfl | rfl | rfl | rfl | rfl | rfl | rfl | rfl | rfl | rfl | rfl | rfl | rfl : v = 0 ∨ v = 1 ∨ v = 2 ∨ v = 3 ∨ v = 4 ∨ v = 5 ∨ v = 6 ∨ v = 7 ∨ v = 8 ∨ v = 9 ∨ v = 10 ∨ v = 11 ∨ v = 12 ∨ v = 13 ∨ v = 14 ∨ v = 15 := by omega
  all_goals rfl
theorem item_byte {q : ByteArray} {i c : Nat} (hc : c < 256) (h : At q i (byteT c)) : item q i = some (btw c c, true, c, i + 4) := by
  simp only [byteT, At] at h
  obtain ⟨⟨h0, e0⟩, ⟨h1, e1⟩, ⟨h2, e2⟩, ⟨h3, e3⟩, _⟩ := h
  unfold item
  rw [if_pos e0]
  unfold esc
  rw [if_neg (by omega), e1]
  simp only [show (120 : Nat) ≠ 110 by omega, show (120 : Nat) ≠ 116 by omega, show (120 : Nat) ≠ 114 by omega, show (120 : Nat) ≠ 100 by omega, show (120 : Nat) ≠ 68 by omega, show (120 : Nat) ≠ 119 by omega, show (120 : Nat) ≠ 87 by omega, show (120 : Nat) ≠ 115 by omega, show (120 : Nat) ≠ 83 by omega, if_false, if_true]
  unfold xesc
  rw [if_pos (by omega), show i + 2 = i + 1 + 1 by omega, show i + 3 = i + 1 + 1 + 1 by omega, e2, e3, hexv_hexC (by omega), hexv_hexC (by omega)]
  simp only [one]
  rw [show c / 16 * 16 + c % 16 = c by omega]
theorem runEnd_facts (P : BSet) : ∀ f c, c + f < 256 → c ≤ runEnd P f c ∧ runEnd P f c ≤ c + f ∧ (∀ b, c < b → b ≤ runEnd P f c → P b = true) ∧ (runEnd P f c < c + f → P (runEnd P f c + 1) = false)
  | 0, c, _ => ⟨Nat.le_refl _, Nat.le_refl _, fun b h1 h2 => by simp only [runEnd] at h2; omega, fun h => by simp only [runEnd] at h; omega⟩
  | f + 1, c, h => by
    unfold runEnd
    split
    · rename_i hc
      obtain ⟨h1, h2, h3, h4⟩ := runEnd_facts P f (c + 1) (by omega)
      refine ⟨by omega, by omega, fun b hb1 hb2 => ?_, fun hlt => h4 (by omega)⟩
      by_cases he : b = c + 1
      · rw [he]; exact hc.2
      · exact h3 b (by omega) hb2
    · rename_i hc
      refine ⟨Nat.le_refl _, by omega, fun b h1 h2 => by omega, fun _ => ?_⟩
      cases hp : P (c + 1) with
      | false => rfl
      | true => exact absurd ⟨by omega, hp⟩ hc
theorem byteT_len (c : Nat) : (byteT c).length = 4 := rfl
/-- One run is read as one member. -/
theorem member_run {q : ByteArray} {i c e : Nat} (he : e < 256) (hce : c ≤ e) (h : At q i (runT c e)) (hn : bt q (i + (runT c e).length) ≠ 45) : member q i = .ok (btw c e, i + (runT c e).length) := by
  unfold runT at h hn ⊢
  rw [At.app] at h
  obtain ⟨h1, h2⟩ := h
  have hi1 := item_byte (by omega) h1
  rw [byteT_len] at h2
  unfold member
  rw [hi1]
  simp only
  by_cases hlt : c < e
  · rw [if_pos hlt] at h2 hn ⊢
    simp only [At] at h2
    obtain ⟨⟨h3, e3⟩, h4⟩ := h2
    have hi2 := item_byte he h4
    have hh := h4
    simp only [byteT, At] at hh
    have hd : dashB q (i + 4) = true := by
      have h5 := hh.1.1
      have h6 := hh.1.2
      simp [dashB, e3, h5, h6]
    rw [if_pos hd, hi2]
    simp only
    rw [if_neg (by simp; omega)]
    simp [byteT_len]
  · rw [if_neg hlt] at h2 hn ⊢
    simp only [List.append_nil, byteT_len] at hn ⊢
    have hd : dashB q (i + 4) = false := by
      simp [dashB, hn]
    rw [if_neg (by rw [hd]; simp)]
    have : e = c := by omega
    rw [this]
/-- The bytes of P from c on. -/
def fromP (P : BSet) (c : Nat) : BSet := fun b => decide (c ≤ b) && (decide (b < 256) && P b)
theorem fromP_none {P : BSet} {c : Nat} (hc : 256 ≤ c) (S : BSet) (b : Nat) : (S b || (decide (c ≤ b) && (decide (b < 256) && P b))) = S b := by
  have : (decide (c ≤ b) && (decide (b < 256) && P b)) = false := by
    by_cases hb : b < 256
    · have : ¬ c ≤ b := by omega
      simp [this]
    · simp [hb]
  rw [this, Bool.or_false]
theorem runT_head (c e : Nat) : ∃ l, runT c e = 92 :: l := ⟨_, rfl⟩
theorem runT_ne (c e : Nat) (q : ByteArray) (i : Nat) (h : At q i (runT c e)) : i < q.size ∧ bt q i = 92 := by
  unfold runT byteT at h
  simp only [List.cons_append, At] at h
  exact h.1
theorem runs_read {q : ByteArray} {at_ : Nat} (P : BSet) : ∀ f c i, 256 ≤ c + f → c ≤ 256 → ∀ S : BSet, At q i (runsT P f c ++ [93]) → ClsR q at_ i S (.ok (joinP S (fromP P c), i + (runsT P f c).length + 1))
  | 0, c, i, hcf, hc, S, h => by
    simp only [runsT, List.nil_append, At] at h
    have : joinP S (fromP P c) = S := by
      funext b
      simp only [joinP, fromP]
      exact fromP_none (by omega) S b
    rw [this]
    exact ClsR.shut h.1.1 h.1.2
  | f + 1, c, i, hcf, hc, S, h => by
    unfold runsT at h ⊢
    by_cases hlt : c < 256
    · rw [if_pos hlt] at h ⊢
      by_cases hp : P c = true
      · rw [if_pos hp] at h ⊢
        obtain ⟨g1, g2, g3, g4⟩ := runEnd_facts P (255 - c) c (by omega)
        generalize runEnd P (255 - c) c = e at *
        rw [List.append_assoc, At.app] at h
        obtain ⟨h1, h2⟩ := h
        have hnx : i + (runT c e).length < q.size ∧ bt q (i + (runT c e).length) ≠ 45 := by
          cases f with
          | zero =>
            simp only [runsT, List.nil_append, At] at h2
            exact ⟨h2.1.1, by rw [h2.1.2]; omega⟩
          | succ f =>
            have key : ∀ l, (∃ c' e' r, l = runT c' e' ++ r) ∨ l = [] → At q (i + (runT c e).length) (l ++ [93]) → i + (runT c e).length < q.size ∧ bt q (i + (runT c e).length) ≠ 45 := by
              intro l hl hat
              rcases hl with ⟨c', e', r, rfl⟩ | rfl
              · rw [List.append_assoc, At.app] at hat
                have := runT_ne _ _ _ _ hat.1
                exact ⟨this.1, by rw [this.2]; omega⟩
              · simp only [List.nil_append, At] at hat
                exact ⟨hat.1.1, by rw [hat.1.2]; omega⟩
            exact key _ (runsT_shape P (f + 1) (e + 1)) h2
        have hm := member_run (by omega) g1 h1 hnx.2
        have hb0 := runT_ne _ _ _ _ h1
        have ih := runs_read (at_ := at_) P f (e + 1) (i + (runT c e).length) (by omega) (by omega) (joinP S (btw c e)) h2
        have hset : joinP (joinP S (btw c e)) (fromP P (e + 1)) = joinP S (fromP P c) := by
          funext b
          simp only [joinP, fromP, btw]
          cases S b with
          | true => simp
          | false =>
            simp only [Bool.false_or]
            by_cases h1 : c ≤ b
            · by_cases h2 : b ≤ e
              · have hpb : P b = true := by
                  by_cases hbc : b = c
                  · rw [hbc]; exact hp
                  · exact g3 b (by omega) h2
                simp [h1, h2, hpb]; omega
              · by_cases h3 : e + 1 ≤ b
                · simp [h1, h2, h3]
                · omega
            · have : ¬ (e + 1 ≤ b) := by omega
              simp [h1, this]
        rw [hset] at ih
        have hlen : i + (runT c e ++ runsT P f (e + 1)).length + 1 = i + (runT c e).length + (runsT P f (e + 1)).length + 1 := by simp; omega
        rw [hlen]
        exact ClsR.more hb0.1 (by rw [hb0.2]; omega) hm ih
      · rw [if_neg hp] at h ⊢
        have ih := runs_read (at_ := at_) P f (c + 1) i (by omega) (by omega) S h
        have hset : fromP P (c + 1) = fromP P c := by
          funext b
          simp only [fromP]
          by_cases hbc : b = c
          · subst hbc
            have : P b = false := by simpa using hp
            simp [this]
          · by_cases h1 : c ≤ b
            · simp [h1, show c + 1 ≤ b by omega]
            · simp [h1, show ¬ (c + 1 ≤ b) by omega]
        rw [hset] at ih
        exact ih
    · rw [if_neg hlt] at h ⊢
      simp only [List.nil_append, At] at h
      have : joinP S (fromP P c) = S := by
        funext b
        simp only [joinP, fromP]
        exact fromP_none (by omega) S b
      rw [this]
      exact ClsR.shut h.1.1 h.1.2
where
  runsT_shape (P : BSet) : ∀ f c, (∃ c' e' r, runsT P f c = runT c' e' ++ r) ∨ runsT P f c = []
    | 0, _ => .inr rfl
    | f + 1, c => by
      unfold runsT
      split
      · split
        · exact .inl ⟨_, _, _, rfl⟩
        · exact runsT_shape P f (c + 1)
      · exact .inr rfl
theorem leaf_set {q : ByteArray} {i : Nat} (P : BSet) (h : At q i (setT P)) : LeafR q i (.ok (1, nmS P, i + (setT P).length)) := by
  unfold setT at h
  simp only [At] at h
  obtain ⟨⟨h0, e0⟩, h1⟩ := h
  have hne : isB q (i + 1) 94 = false := by
    have key : ∀ l, (∃ c' e' r, l = runT c' e' ++ r) ∨ l = [] → At q (i + 1) (l ++ [93]) → isB q (i + 1) 94 = false := by
      intro l hl hat
      rcases hl with ⟨c', e', r, rfl⟩ | rfl
      · rw [List.append_assoc, At.app] at hat
        have := runT_ne _ _ _ _ hat.1
        simp [isB, this.2]
      · simp only [List.nil_append, At] at hat
        simp [isB, hat.1.2]
    exact key _ (runs_read.runsT_shape P 256 0) h1
  have hr := runs_read (at_ := i) P 256 0 (i + 1) (by omega) (by omega) noP h1
  have hst : clsStart q i = i + 1 := by unfold clsStart; rw [hne]; rfl
  have hl := LeafR.cls e0 (hst ▸ hr)
  rw [hne] at hl
  have hs : negIf false (joinP noP (fromP P 0)) = nmS P := by
    funext b
    simp [negIf, joinP, noP, fromP, nmS]
  rw [hs] at hl
  have hlen : i + (setT P).length = i + 1 + (runsT P 256 0).length + 1 := by simp [setT]; omega
  rw [hlen]
  rw [hst] at hl
  exact hl
end Go.Proofs.Qxb6500287a
