import Derived.Test.Qxb6500283aGreatPkWHas
import Derived.Test.Qxb6500283aGreatPkWApi
namespace Go.Proofs.Qxb6500283aGreat
open Go Go.RowKit


def capsV (c : Nat → Int) : Value := .agg #[.int .i64 (c 0), .int .i64 (c 1), .int .i64 (c 2), .int .i64 (c 3), .int .i64 (c 4), .int .i64 (c 5), .int .i64 (c 6), .int .i64 (c 7)]
def bools (f : Nat → Bool) : Nat → Value := fun o => .bool (f o)
theorem bools_upd (f : Nat → Bool) (o : Nat) (v : Bool) : upd (bools f) o (.bool v) = bools (upd f o v) := by
  funext k; simp only [upd, bools]; split <;> rfl

structure RoadR where
  ok : Bool
  c : Nat → Int
  e : Int
  sn : Nat → Bool

def roadS (p : List In) (str : ByteArray) : Nat → Nat → Nat → (Nat → Int) → (Nat → Bool) → RoadR
  | 0, _, _, c, sn => ⟨false, c, 0, sn⟩
  | fuel + 1, pc, i, c, sn =>
    if sn (pc * (str.size + 1) + i) then ⟨false, c, 0, sn⟩
    else
      let sn1 := upd sn (pc * (str.size + 1) + i) true
      match p[pc]? with
      | none => ⟨false, c, 0, sn1⟩
      | some x =>
        if x.op = 0 then
          (if i < str.size ∧ hasB x.s0 x.s1 x.s2 x.s3 (bt str i) = true then roadS p str fuel (pc + 1) (i + 1) c sn1 else ⟨false, c, 0, sn1⟩)
        else if x.op = 1 then
          (if (roadS p str fuel x.x.toNat i c sn1).ok then roadS p str fuel x.x.toNat i c sn1 else roadS p str fuel x.y.toNat i c (roadS p str fuel x.x.toNat i c sn1).sn)
        else if x.op = 2 then roadS p str fuel x.x.toNat i c sn1
        else if x.op = 3 then roadS p str fuel (pc + 1) i (upd c x.x.toNat i) sn1
        else if x.op = 4 then (if i = 0 then roadS p str fuel (pc + 1) i c sn1 else ⟨false, c, 0, sn1⟩)
        else if x.op = 5 then (if i = str.size then roadS p str fuel (pc + 1) i c sn1 else ⟨false, c, 0, sn1⟩)
        else if x.op = 6 then ⟨true, c, i, sn1⟩
        else ⟨false, c, 0, sn1⟩

def unseen (sn : Nat → Bool) (N : Nat) : Nat := ((List.range N).filter fun o => !sn o).length
theorem unseen_upd (sn : Nat → Bool) (N o : Nat) (ho : o < N) (h : sn o = false) : unseen (upd sn o true) N + 1 = unseen sn N := by
  unfold unseen
  have key : ∀ l : List Nat, l.Nodup → o ∈ l → (l.filter fun k => !upd sn o true k).length + 1 = (l.filter fun k => !sn k).length := by
    intro l
    induction l with
    | nil => intro _ hm; cases hm
    | cons a l ih =>
      intro hn hm
      rw [List.nodup_cons] at hn
      by_cases e : a = o
      · subst e
        have h2 : (l.filter fun k => !upd sn a true k) = l.filter fun k => !sn k := by
          refine List.filter_congr fun k hk => ?_
          have : k ≠ a := fun e => hn.1 (e ▸ hk)
          simp [upd, this]
        rw [List.filter_cons, List.filter_cons, h2, upd_same, h]
        simp
      · have hm' : o ∈ l := by
          rcases List.mem_cons.1 hm with h' | h'
          · exact absurd h'.symm e
          · exact h'
        have := ih hn.2 hm'
        simp only [List.filter_cons, upd_other sn o a true e]
        split
        · simp only [List.length_cons]; omega
        · exact this
  exact key _ List.nodup_range (by simpa using ho)
theorem unseen_mono {sn sn' : Nat → Bool} (N : Nat) (h : ∀ o, sn o = true → sn' o = true) : unseen sn' N ≤ unseen sn N := by
  unfold unseen
  induction (List.range N) with
  | nil => simp
  | cons a l ih =>
    simp only [List.filter_cons]
    cases h1 : sn a with
    | true => rw [h a h1]; simpa using ih
    | false =>
      cases h2 : sn' a with
      | true => simp; omega
      | false => simp; omega
theorem roadS_mono (p : List In) (str : ByteArray) : ∀ (fuel pc i : Nat) (c : Nat → Int) (sn : Nat → Bool) (o : Nat), sn o = true → (roadS p str fuel pc i c sn).sn o = true
  | 0, _, _, _, _, _, h => h
  | fuel + 1, pc, i, c, sn, o, h => by
    have h1 : upd sn (pc * (str.size + 1) + i) true o = true := by unfold upd; split; rfl; exact h
    simp only [roadS]
    split
    · exact h
    · split
      · exact h1
      · split
        · split
          · exact roadS_mono p str fuel _ _ _ _ o h1
          · exact h1
        · split
          · split
            · exact roadS_mono p str fuel _ _ _ _ o h1
            · exact roadS_mono p str fuel _ _ _ _ o (roadS_mono p str fuel _ _ _ _ o h1)
          · split
            · exact roadS_mono p str fuel _ _ _ _ o h1
            · split
              · exact roadS_mono p str fuel _ _ _ _ o h1
              · split
                · split
                  · exact roadS_mono p str fuel _ _ _ _ o h1
                  · exact h1
                · split
                  · split
                    · exact roadS_mono p str fuel _ _ _ _ o h1
                    · exact h1
                  · split <;> exact h1
end Go.Proofs.Qxb6500283aGreat
