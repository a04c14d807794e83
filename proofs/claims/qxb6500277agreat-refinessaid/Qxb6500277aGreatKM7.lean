/- The model heap: tidy. -/
import Derived.Test.Qxb6500277aGreatKM5
import Derived.Test.Qxb6500277aGreatMake
namespace Go.Proofs.Qxb6500277aGreat
open Go Go.RowKit

def z64 : Value := .agg #[.slice none 0 0, .slice none 0 0]
/-- The new objects, as far as they are laid. -/
structure Tid (w : World) (nb : Nat) (M : MS) (L : List Int) (f g : Nat → Value) (i : Nat) : Prop where
  blk : Blk w nb (L.length * 2) g
  rf : ∀ j (_ : j < i) (hj : j < L.length), KiAt w (g (2 * j)) ((rfM M.objs L[j]).map (fnd L)) ∧ g (2 * j + 1) = f (2 * L[j].toNat + 1)
  up : ∀ j, j < i → ∀ c, isB (g (2 * j)) c → nb < c
  ap : ∀ j j' c, j < i → j' < i → isB (g (2 * j)) c → isB (g (2 * j')) c → j = j'
theorem Tid.frame {S : Nat → Prop} {w w' : World} {nb : Nat} {M : MS} {L : List Int} {f g : Nat → Value} {i : Nat} (T : Tid w nb M L f g i) (k : Fr S w w') (h0 : ¬ S nb) (h1 : ∀ j, j < i → ∀ c, isB (g (2 * j)) c → ¬ S c) : Tid w' nb M L f g i :=
  ⟨T.blk.frame k h0, fun j hi hj => ⟨(T.rf j hi hj).1.frame k (h1 j hi), (T.rf j hi hj).2⟩, T.up, T.ap⟩
theorem Tid.push {w : World} {nb rb : Nat} {M : MS} {L : List Int} {f g : Nat → Value} {i n c : Nat} {iv2 : Value} (T : Tid w nb M L f g i) (hi : i < L.length) (hK : KiAt w (.slice (some ⟨rb, 0, none⟩) n c) ((rfM M.objs L[i]).map (fnd L))) (hv : iv2 = f (2 * L[i].toNat + 1)) (hrb : nb < rb) (hne : ∀ j, j < i → ∀ c, isB (g (2 * j)) c → c ≠ rb) :
    Tid ((w.setCell ⟨nb, i * 2, none⟩ (.slice (some ⟨rb, 0, none⟩) n c)).setCell ⟨nb, i * 2 + 1, none⟩ iv2) nb M L f (upd (upd g (i * 2) (.slice (some ⟨rb, 0, none⟩) n c)) (i * 2 + 1) iv2) (i + 1) := by
  have k := ((Fr.refl (fun c => c = nb) w).setC nb (i * 2) (.slice (some ⟨rb, 0, none⟩) n c) (fun _ => rfl)).setC nb (i * 2 + 1) iv2 (fun _ => rfl)
  have g0 : ∀ j, j < i → upd (upd g (i * 2) (.slice (some ⟨rb, 0, none⟩) n c)) (i * 2 + 1) iv2 (2 * j) = g (2 * j) ∧ upd (upd g (i * 2) (.slice (some ⟨rb, 0, none⟩) n c)) (i * 2 + 1) iv2 (2 * j + 1) = g (2 * j + 1) := fun j hj => by
    simp only [upd]
    rw [if_neg (by omega), if_neg (by omega), if_neg (by omega), if_neg (by omega)]
    exact ⟨rfl, rfl⟩
  have gi : upd (upd g (i * 2) (.slice (some ⟨rb, 0, none⟩) n c)) (i * 2 + 1) iv2 (2 * i) = .slice (some ⟨rb, 0, none⟩) n c ∧ upd (upd g (i * 2) (.slice (some ⟨rb, 0, none⟩) n c)) (i * 2 + 1) iv2 (2 * i + 1) = iv2 := by
    simp only [upd]
    rw [if_neg (by omega), if_pos (by omega), if_pos (by omega)]
    exact ⟨rfl, rfl⟩
  refine ⟨(T.blk.set _ _).set _ _, fun j hj hl => ?_, fun j hj c' hc => ?_, fun j j' c' hj hj' h1 h2 => ?_⟩
  · by_cases e : j = i
    · subst e
      rw [gi.1, gi.2]
      exact ⟨hK.frame k (fun c' hc => by rw [isB_one hc]; omega), hv⟩
    · have hj' : j < i := by omega
      rw [(g0 j hj').1, (g0 j hj').2]
      exact ⟨(T.rf j hj' hl).1.frame k (fun c' hc => by have := T.up j hj' c' hc; omega), (T.rf j hj' hl).2⟩
  · by_cases e : j = i
    · subst e
      rw [gi.1] at hc
      rw [isB_one hc]; exact hrb
    · rw [(g0 j (by omega)).1] at hc
      exact T.up j (by omega) c' hc
  · by_cases e : j = i
    · by_cases e' : j' = i
      · omega
      · subst e
        rw [gi.1] at h1
        rw [(g0 j' (by omega)).1] at h2
        exact absurd (isB_one h1) (hne j' (by omega) c' h2)
    · by_cases e' : j' = i
      · subst e'
        rw [gi.1] at h2
        rw [(g0 j (by omega)).1] at h1
        exact absurd (isB_one h2) (hne j (by omega) c' h1)
      · rw [(g0 j (by omega)).1] at h1
        rw [(g0 j' (by omega)).1] at h2
        exact T.ap j j' c' (by omega) (by omega) h1 h2
/-- The slots, numbered anew as far as i. -/
def rtI (M : MS) (L : List Int) (i : Nat) : List Int := (List.range M.rt.length).map fun j => if j < i then fnd L (M.rt[j]?.getD 0) else M.rt[j]?.getD 0
theorem rtI_len (M : MS) (L : List Int) (i : Nat) : (rtI M L i).length = M.rt.length := by simp [rtI]
theorem rtI_at {M : MS} {L : List Int} {i j : Nat} (h : j < (rtI M L i).length) : (rtI M L i)[j] = if j < i then fnd L (M.rt[j]?.getD 0) else M.rt[j]?.getD 0 := by simp [rtI]
theorem rtI_get (M : MS) (L : List Int) {i : Nat} (h : i < M.rt.length) : (rtI M L i)[i]'(by rw [rtI_len]; exact h) = M.rt[i] := by
  rw [rtI_at, if_neg (by omega), List.getElem?_eq_getElem h]; rfl
theorem rtI_set (M : MS) (L : List Int) {i : Nat} (h : i < M.rt.length) : (rtI M L i).set i (fnd L M.rt[i]) = rtI M L (i + 1) := by
  refine List.ext_getElem (by rw [List.length_set, rtI_len, rtI_len]) fun j h1 h2 => ?_
  rw [List.getElem_set, rtI_at, rtI_at]
  by_cases e : i = j
  · subst e
    rw [if_pos rfl, if_pos (by omega), List.getElem?_eq_getElem h]; rfl
  · rw [if_neg e]
    by_cases hl : j < i
    · rw [if_pos hl, if_pos (by omega)]
    · rw [if_neg hl, if_neg (by omega)]
theorem rtI_zero (M : MS) (L : List Int) : rtI M L 0 = M.rt := by
  refine List.ext_getElem (by rw [rtI_len]) fun j h1 h2 => ?_
  rw [rtI_at, if_neg (by omega), List.getElem?_eq_getElem h2]; rfl
theorem rtI_full (M : MS) (L : List Int) : rtI M L M.rt.length = M.rt.map (fnd L) := by
  refine List.ext_getElem (by rw [rtI_len]; simp) fun j h1 h2 => ?_
  have h3 : j < M.rt.length := by simpa using h2
  rw [rtI_at, if_pos h3, List.getElem?_eq_getElem h3]
  simp
/-- The new objects take the old ones' place. -/
theorem MV.tidied {w wB w' : World} {m nb : Nat} {M : MS} {O : Nat → Prop} {ov rv : Value} {f g : Nat → Value} {L : List Int} (V : MV w' m ⟨M.objs, rtI M L M.rt.length⟩ O ov rv f) (hL : L.Nodup) (hst : ∀ x ∈ L, 0 ≤ x ∧ x.toNat < M.objs.length) (T : Tid w' nb M L f g L.length) (hnb : w.heap.size ≤ nb) (hO : ∀ c, O c → c < w.heap.size) (hs : w'.heap.size ≤ wB.heap.size)
    (hz : (w'.setCell ⟨m, 0, none⟩ (.slice (some ⟨nb, 0, none⟩) L.length L.length)).heap.size = wB.heap.size) (hT : ∀ j, j < L.length → ∀ c, isB (g (2 * j)) c → c < w'.heap.size) :
    MV (w'.setCell ⟨m, 0, none⟩ (.slice (some ⟨nb, 0, none⟩) L.length L.length)) m ⟨L.map fun x => ((rfM M.objs x).map (fnd L), itM M.objs x), rtI M L M.rt.length⟩ (Gw O w wB) (.slice (some ⟨nb, 0, none⟩) L.length L.length) rv g := by
  have hm := hO m V.om
  have k := (Fr.refl (fun c => c = m) w').setC m 0 (.slice (some ⟨nb, 0, none⟩) L.length L.length) (fun _ => rfl)
  have hnm : ∀ p, p < 2 + 2 * M.objs.length → ∀ v, v = vl ov rv f p → ∀ c, isB v c → ¬ c = m := fun p hp v hv c hc => by subst hv; exact (V.own p c hp hc).2
  have hnbl := T.blk.lt
  -- what a part is
  have part : ∀ p c, p < 2 + 2 * L.length → isB (vl (.slice (some ⟨nb, 0, none⟩) L.length L.length) rv g p) c → (p = 0 ∧ isB rv c) ∨ (p = 1 ∧ c = nb) ∨ (∃ j, j < L.length ∧ p = 2 * j + 2 ∧ isB (g (2 * j)) c ∧ nb < c) ∨ ∃ j, ∃ hj : j < L.length, p = 2 * j + 3 ∧ isB (f (2 * L[j].toNat + 1)) c := by
    intro p c hp hc
    match p with
    | 0 => exact .inl ⟨rfl, hc⟩
    | 1 => exact .inr (.inl ⟨rfl, isB_one hc⟩)
    | q + 2 =>
      obtain ⟨j, hj | hj⟩ : ∃ j, q = 2 * j ∨ q = 2 * j + 1 := ⟨q / 2, by omega⟩
      · subst hj
        exact .inr (.inr (.inl ⟨j, by omega, rfl, hc, T.up j (by omega) c hc⟩))
      · subst hj
        have hjl : j < L.length := by omega
        refine .inr (.inr (.inr ⟨j, hjl, rfl, ?_⟩))
        have hc' : isB (g (2 * j + 1)) c := hc
        rw [(T.rf j hjl hjl).2] at hc'
        exact hc'
  have ints : ∀ j (hj : j < L.length) c, isB (f (2 * L[j].toNat + 1)) c → O c ∧ c ≠ m ∧ c < w.heap.size := fun j hj c hc => by
    have h1 := (hst _ (List.getElem_mem hj)).2
    have := V.own (2 * L[j].toNat + 1 + 2) c (by show _ < 2 + 2 * M.objs.length; omega) hc
    exact ⟨this.1, this.2, hO c this.1⟩
  have rvO : ∀ c, isB rv c → O c ∧ c ≠ m ∧ c < w.heap.size := fun c hc => by
    have := V.own 0 c (by omega) hc
    exact ⟨this.1, this.2, hO c this.1⟩
  refine ⟨(V.blk.set 0 _).congr (fun o ho => ?_), V.rt.frame k (hnm 0 (by omega) _ rfl), .inr ⟨nb, L.length, by simp, by simp, T.blk.frame k (by omega)⟩, fun j hj => ?_, fun p q c hp hq h1 h2 => ?_, fun p c hp hc => ?_, .inl V.om, fun c hc => ?_, fun j hj => ?_⟩
  · obtain rfl | rfl : o = 0 ∨ o = 1 := by omega
    all_goals simp [upd, mc]
  · simp only [List.length_map] at hj
    obtain ⟨r1, r2⟩ := T.rf j hj hj
    have hx := hst _ (List.getElem_mem hj)
    simp only [List.getElem_map]
    refine ⟨r1.frame k (fun c hc e => by have := T.up j hj c hc; omega), ?_⟩
    rw [r2]
    have h2 := (V.fl L[j].toNat hx.2).2
    rw [(rfM_get (os := M.objs) (i := L[j]) hx.2).2]
    exact h2.frame k (fun c hc e => (ints j hj c hc).2.1 e)
  · simp only [List.length_map] at hp hq
    rcases part p c hp h1 with ⟨rfl, a⟩ | ⟨rfl, a⟩ | ⟨j, hj, rfl, a, a'⟩ | ⟨j, hj, rfl, a⟩ <;> rcases part q c hq h2 with ⟨rfl, b⟩ | ⟨rfl, b⟩ | ⟨j', hj', rfl, b, b'⟩ | ⟨j', hj', rfl, b⟩
    · rfl
    · have := (rvO c a).2.2; omega
    · have := (rvO c a).2.2; omega
    · have h3 := (hst _ (List.getElem_mem hj')).2
      have := V.ap 0 (2 * L[j'].toNat + 1 + 2) c (by omega) (by show _ < 2 + 2 * M.objs.length; omega) a b
      omega
    · have := (rvO c b).2.2; omega
    · rfl
    · omega
    · have := (ints j' hj' c b).2.2; omega
    · have := (rvO c b).2.2; omega
    · omega
    · have := T.ap j j' c hj hj' a b; omega
    · have := (ints j' hj' c b).2.2; omega
    · have h3 := (hst _ (List.getElem_mem hj)).2
      have := V.ap (2 * L[j].toNat + 1 + 2) 0 c (by show _ < 2 + 2 * M.objs.length; omega) (by omega) a b
      omega
    · have := (ints j hj c a).2.2; omega
    · have := (ints j hj c a).2.2; omega
    · have h3 := (hst _ (List.getElem_mem hj))
      have h4 := (hst _ (List.getElem_mem hj'))
      have := V.ap (2 * L[j].toNat + 1 + 2) (2 * L[j'].toNat + 1 + 2) c (by show _ < 2 + 2 * M.objs.length; omega) (by show _ < 2 + 2 * M.objs.length; omega) a b
      have e : L[j] = L[j'] := by omega
      have := (List.getElem_inj hL).1 e
      omega
  · simp only [List.length_map] at hp
    rcases part p c hp hc with ⟨rfl, a⟩ | ⟨rfl, a⟩ | ⟨j, hj, rfl, a, a'⟩ | ⟨j, hj, rfl, a⟩
    · exact ⟨.inl (rvO c a).1, (rvO c a).2.1⟩
    · exact ⟨.inr (by omega), by omega⟩
    · have := hT j hj c a
      exact ⟨.inr (by omega), by omega⟩
    · exact ⟨.inl (ints j hj c a).1, (ints j hj c a).2.1⟩
  · rcases hc with hc | hc
    · have := V.lt c hc; have := k.size; omega
    · omega
  · simp only [List.length_map] at hj
    have hx := hst _ (List.getElem_mem hj)
    rw [(T.rf j hj hj).2]
    exact V.nn _ hx.2
end Go.Proofs.Qxb6500277aGreat
