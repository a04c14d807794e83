/- The real heap: the work list, trace, Live. -/
import Derived.Test.Qxb6500281aGreatKI1
namespace Go.Proofs.Qxb6500281aGreat
open Go Go.RowKit

structure LM (w : World) (b : Nat) (l : List Int) : Prop where
  blk : ∃ f, Blk w b 49 f ∧ (∀ k (h : k < l.length), f k = .int .i64 l[k]) ∧ f 48 = .int .i64 l.length ∧ ∀ k, k < 48 → ∃ v, f k = .int .i64 v
  le : l.length ≤ 48
section
variable {w w' : World} {b : Nat} {l : List Int}
theorem LM.lt (h : LM w b l) : b < w.heap.size := by obtain ⟨⟨f, hb, _⟩, _⟩ := h; exact hb.lt
theorem LM.n (h : LM w b l) : w.cell? ⟨b, 48, none⟩ = some (.int .i64 l.length) := by
  obtain ⟨⟨f, hb, _, h2, _⟩, _⟩ := h; rw [hb.cell (by omega), h2]
theorem LM.at (h : LM w b l) {k : Nat} (hk : k < l.length) : w.cell? ⟨b, k, none⟩ = some (.int .i64 l[k]) := by
  have := h.le
  obtain ⟨⟨f, hb, h1, _⟩, _⟩ := h; rw [hb.cell (by omega), h1 k hk]
theorem LM.any (h : LM w b l) {k : Nat} (hk : k < 48) : ∃ v, w.cell? ⟨b, k, none⟩ = some (.int .i64 v) := by
  obtain ⟨⟨f, hb, _, _, h3⟩, _⟩ := h
  obtain ⟨v, hv⟩ := h3 k hk
  exact ⟨v, by rw [hb.cell (by omega), hv]⟩
theorem LM.frozen (h : LM w b l) (k : Nat) : w.frozen? ⟨b, k, none⟩ = false := by obtain ⟨⟨f, hb, _⟩, _⟩ := h; exact hb.frozen k
theorem LM.frame {S : Nat → Prop} (h : LM w b l) (k : Fr S w w') (hn : ¬ S b) : LM w' b l := by
  obtain ⟨⟨f, hb, h2⟩, h3⟩ := h; exact ⟨⟨f, hb.frame k hn, h2⟩, h3⟩
theorem LM.push (h : LM w b l) (x : Int) (hl : l.length < 48) : LM ((w.setCell ⟨b, l.length, none⟩ (.int .i64 x)).setCell ⟨b, 48, none⟩ (.int .i64 ((l.length + 1 : Nat) : Int))) b (l ++ [x]) := by
  obtain ⟨⟨f, hb, h1, h2, h3⟩, _⟩ := h
  refine ⟨⟨_, (hb.set l.length (.int .i64 x)).set 48 _, fun k hk => ?_, ?_, fun k hk => ?_⟩, by simp; omega⟩
  · simp only [List.length_append, List.length_singleton] at hk
    simp only [upd]
    rw [if_neg (by omega)]
    by_cases e : k = l.length
    · subst e; rw [if_pos rfl, List.getElem_append_right (Nat.le_refl _)]; simp
    · rw [if_neg e, List.getElem_append_left (by omega)]; exact h1 k (by omega)
  · simp [upd]
  · simp only [upd]
    rw [if_neg (by omega)]
    split
    · exact ⟨_, rfl⟩
    · exact h3 k hk
set_option maxHeartbeats 1000000 in
theorem findF (L : LM w b l) (x : Int) : Calls Tryz.prog 49 #[.pointer (some ⟨b, 0, none⟩), .int .i64 x] w fun e w' => e = .returned (.int .i64 (fnd l x)) ∧ w' = w := by
  have cn := L.n
  have hlt := L.lt
  have hle := L.le
  go_enter Tryz.func49, Tryz.ntmps49
  go_wp2_with fail
  go_loopg [5] l.length (fun g kv wr => ∃ k : Nat, kv = .int .i64 k ∧ k + g = l.length ∧ (∀ j (hj : j < l.length), j < k → l[j] ≠ x) ∧ wr = w)
  case atStart => exact ⟨0, rfl, by omega, fun j _ h => by omega, rfl⟩
  case round =>
    obtain ⟨k, rfl, hkg, hno, rfl⟩ := hrel
    have hkg' : k + gk = l.length := hkg
    clear hkg
    by_cases hk : k < l.length
    · have hk' : (k : Int) < l.length := by omega
      have ck := L.at hk
      have hk48 : k < 48 := by omega
      by_cases he : l[k] = x
      · have hf := fnd_hit hk he hno
        have Hf : Hid _ := hf
        rw [he] at ck
        clear hno he hf
        go_wp2_with fail
        go_ret
        exact ⟨by rw [Hf.out]; rfl, rfl⟩
      · have hb : (l[k] == x) = false := by simpa using he
        go_wp2_with fail
        go_roundg (gk - 1)
        case measure => omega
        case rel =>
          refine ⟨k + 1, by simp, by omega, fun j hj hjk => ?_, rfl⟩
          by_cases e : j = k
          · subst e; exact he
          · exact hno j hj (by omega)
    · have hkn : k = l.length := by omega
      have hf : fnd l x = -1 := fnd_miss fun hm => by
        obtain ⟨j, hj, e⟩ := List.getElem_of_mem hm
        exact hno j hj (by omega) e
      have Hf : Hid _ := hf
      have hk2 : ¬ ((k : Int) < l.length) := by omega
      clear hf hno
      go_wp2_with fail
      go_ret
      exact ⟨by rw [Hf.out]; rfl, rfl⟩
theorem fnd_neg {l : List Int} {x : Int} : fnd l x < 0 ↔ x ∉ l := by
  constructor
  · intro h hm
    obtain ⟨i, hi, h1, _⟩ := fnd_mem hm
    omega
  · intro h; rw [fnd_miss h]; omega
set_option maxHeartbeats 1000000 in
theorem noteF (L : LM w b l) (x : Int) (hcap : (noteL l x).length ≤ 48) : Calls Tryz.prog 101 #[.pointer (some ⟨b, 0, none⟩), .int .i64 x] w fun e w' => e = .returned (.tuple #[]) ∧ LM w' b (noteL l x) ∧ Fr (OnlyH b) w w' := by
  have hlt := L.lt
  have F := findF L x
  by_cases h0 : 0 ≤ x
  · by_cases hm : x ∈ l
    · have hn : noteL l x = l := by simp [noteL, hm]
      have hf : ¬ (fnd l x < 0) := fun h => fnd_neg.1 h hm
      rw [hn]
      clear hcap hn
      generalize fnd l x = z at *
      go_enter Tryz.func101, Tryz.ntmps101
      go_wp2_with fail
      refine F.mono ?_
      rintro e w1 ⟨rfl, rfl⟩
      go_wp2_with fail
      go_end0
      exact ⟨rfl, L, Fr.refl _ _⟩
    · have hn : noteL l x = l ++ [x] := by simp [noteL, hm, h0]
      have hf : fnd l x < 0 := fnd_neg.2 hm
      rw [hn] at hcap ⊢
      have hl48 : l.length < 48 := by simp at hcap; omega
      clear hcap hn
      generalize fnd l x = z at *
      have cn := L.n
      obtain ⟨v0, cv⟩ := L.any hl48
      have z1 := L.frozen l.length
      have z2 := L.frozen 48
      have Hk : Hid (_ ∧ _) := ⟨L.push x hl48, ((Fr.refl (OnlyH b) w).setC b l.length (.int .i64 x) (fun _ => rfl)).setC b 48 (.int .i64 ((l.length + 1 : Nat) : Int)) (fun _ => rfl)⟩
      go_enter Tryz.func101, Tryz.ntmps101
      go_wp2_with fail
      refine F.mono ?_
      rintro e w1 ⟨rfl, rfl⟩
      go_wp2_with fail
      refine wp_region_text (by kernel_rfl) (by kernel_rfl) ?_
      go_wp2_with fail
      refine ⟨by kernel_rfl, ?_⟩
      go_wp2_with fail
      go_end0
      exact ⟨rfl, Hk.out.1.frame (Fr.refl (fun _ => False) _).drew (fun h => h), Hk.out.2.drew⟩
  · have hn : noteL l x = l := by simp [noteL, h0]
    rw [hn]
    clear hcap hn
    have h0' : x < 0 := by omega
    go_enter Tryz.func101, Tryz.ntmps101
    go_wp2_with fail
    go_end0
    exact ⟨rfl, L, Fr.refl _ _⟩
end
theorem z49 : (#[.int .i64 0, .int .i64 0, .int .i64 0, .int .i64 0, .int .i64 0, .int .i64 0, .int .i64 0, .int .i64 0, .int .i64 0, .int .i64 0, .int .i64 0, .int .i64 0, .int .i64 0, .int .i64 0, .int .i64 0, .int .i64 0, .int .i64 0, .int .i64 0, .int .i64 0, .int .i64 0, .int .i64 0, .int .i64 0, .int .i64 0, .int .i64 0, .int .i64 0, .int .i64 0, .int .i64 0, .int .i64 0, .int .i64 0, .int .i64 0, .int .i64 0, .int .i64 0, .int .i64 0, .int .i64 0, .int .i64 0, .int .i64 0, .int .i64 0, .int .i64 0, .int .i64 0, .int .i64 0, .int .i64 0, .int .i64 0, .int .i64 0, .int .i64 0, .int .i64 0, .int .i64 0, .int .i64 0, .int .i64 0, .int .i64 0] : Array Value) = Array.replicate 49 (.int .i64 0) := by kernel_rfl
theorem LM.new (w : World) : LM (w.alloc (.cells #[.int .i64 0, .int .i64 0, .int .i64 0, .int .i64 0, .int .i64 0, .int .i64 0, .int .i64 0, .int .i64 0, .int .i64 0, .int .i64 0, .int .i64 0, .int .i64 0, .int .i64 0, .int .i64 0, .int .i64 0, .int .i64 0, .int .i64 0, .int .i64 0, .int .i64 0, .int .i64 0, .int .i64 0, .int .i64 0, .int .i64 0, .int .i64 0, .int .i64 0, .int .i64 0, .int .i64 0, .int .i64 0, .int .i64 0, .int .i64 0, .int .i64 0, .int .i64 0, .int .i64 0, .int .i64 0, .int .i64 0, .int .i64 0, .int .i64 0, .int .i64 0, .int .i64 0, .int .i64 0, .int .i64 0, .int .i64 0, .int .i64 0, .int .i64 0, .int .i64 0, .int .i64 0, .int .i64 0, .int .i64 0, .int .i64 0] 90)) w.heap.size [] := by
  have hb := Blk.new w (Array.replicate 49 (.int .i64 0)) 90 (fun _ => .int .i64 0) (fun o ho => by simp at ho; simp [ho])
  rw [z49]
  simp only [Array.size_replicate] at hb
  exact ⟨⟨_, hb, fun k hk => by simp at hk, rfl, fun k _ => ⟨0, rfl⟩⟩, by simp⟩
end Go.Proofs.Qxb6500281aGreat
