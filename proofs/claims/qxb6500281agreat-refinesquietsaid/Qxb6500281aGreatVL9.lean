/- The law: the start; small pieces of the walk. -/
import Derived.Test.Qxb6500281aGreatVL8
namespace Go.Proofs.Qxb6500281aGreat
open Go Go.RowKit

def ScrAt (w : World) (a : Option Addr) (n : Nat) : Prop := n = 0 ∨ ∃ b off, a = some ⟨b, off, none⟩ ∧ b < w.heap.size ∧ ∀ i, i < n → ∃ kind A B C S T, A ≤ 9223372036854775807 ∧
  w.cell? ⟨b, off + i * 6, none⟩ = some (.int .i64 kind) ∧ w.cell? ⟨b, off + i * 6 + 1, none⟩ = some (.int .i64 A) ∧ w.cell? ⟨b, off + i * 6 + 2, none⟩ = some (.int .i64 B) ∧
  w.cell? ⟨b, off + i * 6 + 3, none⟩ = some (.int .i64 C) ∧ w.cell? ⟨b, off + i * 6 + 4, none⟩ = some (.string S) ∧ w.cell? ⟨b, off + i * 6 + 5, none⟩ = some (.string T)
section
variable {lo : Nat} {w w' w1 w2 w3 w4 w5 w6 : World} {A : Va} {m hm b6 b11 b12 h c : Nat} {idle : Bool} {inv mv : Value}
theorem LW.init (hlo : lo ≤ h) (hM : HM w h hsNew) (B : Blk w c 65 (vC ⟨c, h⟩ (fun _ => 0) ⟨0, 0, 0, 0, 0⟩ 0 (V0 0) nilS nilS nilS)) (X : MX w m hm ⟨[], []⟩ 0 0 (fun x => x = hm)) (B6 : Blk w b6 1 (fun _ => .pointer (some ⟨h, 0, none⟩))) (B11 : Blk w b11 6 z6) (B12 : Blk w b12 6 z6)
    (o1 : h < b6) (o2 : b6 < c) (o3 : c < m) (o4 : c < hm) (o5 : m < b11) (o6 : hm < b11) (o7 : b11 < b12) : LW lo w ⟨c, h⟩ m hm b6 b11 b12 true nilS nilS := by
  have zc : ∀ o, o < 6 → z6 o = c6 (.int .i64 0) (.int .i64 0) (.int .i64 0) (.int .i64 0) nilS (.int .i64 0) o := fun o ho => by
    rcases lt6 ho with rfl | rfl | rfl | rfl | rfl | rfl <;> rfl
  have hs1 := B12.lt
  have hmn : m ≠ hm := fun e => X.nm e
  refine ⟨⟨hsNew, 0, 0, nilS, nilS, ⟨[], []⟩, 0, 0, fun x => x = hm, 0, 0, 0, 0, 0, [], nilS, nilS, 0, fun _ => nilS, [], fun b => if b = c ∨ b = h then 1 else if b = m ∨ b = hm then 2 else if b = b6 ∨ b = b11 ∨ b = b12 then 8 else 0, ⟨⟨[], [], V0 0, fun _ => 0, ⟨0, 0, 0, 0, 0⟩, 0, ⟨B, hM, rfl, rfl, .inl ⟨rfl, rfl⟩, .inl ⟨rfl, rfl⟩, .inl ⟨rfl, rfl⟩, (show c ≠ h by omega), fun b hb => absurd hb (nil_noB b), fun b hb => absurd hb (nil_noB b), fun b hb => absurd hb (nil_noB b), Nat.zero_le _, fun i => by simp [byteAt], Nat.zero_le _, Nat.zero_le _⟩, rfl, rfl, Nat.le_refl _, Nat.zero_le _, Nat.le_refl _, Nat.le_refl _, fun _ => rfl, .inl ⟨rfl, rfl⟩⟩, ⟨_, new_rel⟩⟩, X, new_rel.mi, Nat.zero_le _, fun _ => ⟨rfl, rfl⟩, fun h => (by cases h), .inl ⟨rfl, rfl⟩, Nat.zero_le _, B6, B11.congr zc, B12.congr zc, .inl ⟨rfl, rfl⟩, .inl ⟨rfl, rfl⟩, Nat.zero_le _, ⟨Nat.zero_le _, .inl ⟨rfl, rfl⟩, fun j hj => absurd hj (Nat.not_lt_zero _)⟩, ⟨fun b hb => ?_, fun b hb => ?_, fun b hb => absurd hb (nil_noB b), fun b hb => absurd hb (nil_noB b), fun b hb => absurd hb (nil_noB b), fun j hj => absurd hj (Nat.not_lt_zero _), fun b hb => absurd hb (nil_noB b), fun b hb => ?_, fun b hb => ?_⟩⟩, by omega⟩
  · rcases hb with (hb | hb) | hb | hb
    · exact if_pos (.inl hb)
    · exact if_pos (.inr hb)
    · exact absurd hb (nil_noB b)
    · exact absurd hb (nil_noB b)
  · show (if b = c ∨ b = h then 1 else if b = m ∨ b = hm then 2 else if b = b6 ∨ b = b11 ∨ b = b12 then 8 else 0) = 2
    rw [if_neg (by omega), if_pos hb]
  · show (if b = c ∨ b = h then 1 else if b = m ∨ b = hm then 2 else if b = b6 ∨ b = b11 ∨ b = b12 then 8 else 0) = 8
    rw [if_neg (by omega), if_neg (by omega), if_pos hb]
  · by_cases g1 : b = c ∨ b = h
    · omega
    by_cases g2 : b = m ∨ b = hm
    · omega
    by_cases g3 : b = b6 ∨ b = b11 ∨ b = b12
    · omega
    have hb' : (if b = c ∨ b = h then 1 else if b = m ∨ b = hm then 2 else if b = b6 ∨ b = b11 ∨ b = b12 then 8 else 0) ≠ 0 := hb
    rw [if_neg g1, if_neg g2, if_neg g3] at hb'
    exact absurd rfl hb'
theorem LW.sound (H : LW lo w A m hm b6 b11 b12 idle inv mv) : Calls Tryz.prog 10 #[.agg #[.pointer (some ⟨A.h, 0, none⟩)], .pointer (some ⟨A.m, 0, none⟩), .pointer (some ⟨m, 0, none⟩), .bool idle] w fun e w' => e = .returned (.bool true) ∧ Fr (fun _ => False) w w' := by
  obtain ⟨S, s, t, cv, iv, M, sm, tm, O, er, po, en, rt, fu, L, v1, v2, nm, f, I, κ, H⟩ := H.opn
  exact soundF H.R H.X H.mi H.h24 idle H.hi H.hn
theorem LW.cell6 (H : LW lo w A m hm b6 b11 b12 idle inv mv) : w.cell? ⟨b6, 0, none⟩ = some (.pointer (some ⟨A.h, 0, none⟩)) ∧ b6 < w.heap.size := by
  obtain ⟨S, s, t, cv, iv, M, sm, tm, O, er, po, en, rt, fu, L, v1, v2, nm, f, I, κ, H⟩ := H.opn
  exact ⟨H.B6.cell (o := 0) (by omega), H.B6.lt⟩
theorem LW.slices (H : LW lo w A m hm b6 b11 b12 idle inv mv) : (∃ a n c, inv = .slice a n c ∧ n ≤ 129) ∧ ∃ a n c, mv = .slice a n c ∧ n ≤ 16 := by
  obtain ⟨S, s, t, cv, iv, M, sm, tm, O, er, po, en, rt, fu, L, v1, v2, nm, f, I, κ, H⟩ := H.opn
  obtain ⟨a, c, e, _⟩ := H.kI.sl
  obtain ⟨a2, c2, e2⟩ := H.mn.os.sl
  exact ⟨⟨a, _, c, e, H.il⟩, ⟨a2, _, c2, e2, H.mn.le⟩⟩
theorem LW.pastN (H : LW lo w A m hm b6 b11 b12 idle inv mv) : ∃ S, HM w A.h S ∧ S.top ≤ 24 ∧ ∃ Mx, Rel (pushN S).2 Mx := by
  obtain ⟨S, s, t, cv, iv, M, sm, tm, O, er, po, en, rt, fu, L, v1, v2, nm, f, I, κ, H⟩ := H.opn
  obtain ⟨Mx, hR⟩ := H.R.rel
  obtain ⟨C, I', V, st, G, nf, RX, _⟩ := H.R.ex
  exact ⟨S, RX.hm, hR.top, _, hR.push.2⟩
end
end Go.Proofs.Qxb6500281aGreat
