/- join. -/
import Derived.Test.Qxb6500283aGreatX2
namespace Go.Proofs.Qxb6500283aGreat
open Go Go.RowKit

def slB (v : Value) (b : Nat) : Prop := ∃ n c, v = .slice (some ⟨b, 0, none⟩) n c
theorem pigeon : ∀ (m : Nat) (l : List Nat), l.Nodup → (∀ a ∈ l, a < m) → l.length ≤ m
  | 0, l, _, h => by
    cases l with
    | nil => simp
    | cons x l => exact absurd (h x (List.mem_cons_self ..)) (by omega)
  | m + 1, l, hn, h => by
    have h1 := pigeon m (l.filter (· != m)) (hn.filter _) (fun a ha => by
      have ha2 := List.mem_filter.1 ha
      have := h a ha2.1
      have h3 : a ≠ m := by simpa using ha2.2
      omega)
    have h2 : l.length ≤ (l.filter (· != m)).length + 1 := by
      clear h h1
      induction l with
      | nil => simp
      | cons x l ih =>
        have hn' := List.nodup_cons.1 hn
        by_cases hx : x = m
        · subst hx
          have : l.filter (· != x) = l := List.filter_eq_self.2 (fun a ha => by
            have : a ≠ x := fun e => hn'.1 (e ▸ ha)
            simpa using this)
          rw [List.filter_cons]
          simp [this]
        · rw [List.filter_cons]
          simp only [bne_iff_ne, ne_eq, hx, not_false_eq_true, if_true, List.length_cons]
          have := ih hn'.2
          omega
    omega
theorem ways_len {l : List Wy} {n : Nat} (h1 : (ends l).Nodup) (h2 : ∀ x ∈ l, x.1 ≤ n) : l.length ≤ n + 1 := by
  have := pigeon (n + 1) (ends l) h1 (fun a ha => by
    obtain ⟨x, hx, rfl⟩ := List.mem_map.1 ha
    have := h2 x hx
    omega)
  simpa [ends] using this
def seenF (S : List Nat) (e : Nat) : Value := .bool (decide (e ∈ S))
theorem seen_set (S S' : List Nat) (e : Nat) (h : ∀ x, x ∈ S' ↔ x ∈ S ∨ x = e) : ∀ o, upd (seenF S) e (.bool true) o = seenF S' o := fun o => by
  by_cases ho : o = e
  · subst ho
    rw [upd_same]
    simp [seenF, h]
  · rw [upd_other _ _ _ _ ho]
    simp [seenF, h, ho]
theorem take_next {l : List Wy} {k : Nat} (h : k < l.length) : l.take (k + 1) = l.take k ++ [l[k]] := by
  rw [List.take_add_one, List.getElem?_eq_getElem h]
  rfl
theorem ends_one (x : Wy) : ends [x] = [x.1] := rfl
theorem WPAt.one (w : World) (x : Wy) : WPAt (w.alloc (.cells #[.int .i64 (x.1 : Nat), .int .i64 (x.2 0), .int .i64 (x.2 1), .int .i64 (x.2 2), .int .i64 (x.2 3), .int .i64 (x.2 4), .int .i64 (x.2 5), .int .i64 (x.2 6), .int .i64 (x.2 7)] 200)) w.heap.size [x] := by
  intro k hk j hj
  obtain rfl : k = 0 := by simpa using hk
  have hb := Blk.new w #[.int .i64 (x.1 : Nat), .int .i64 (x.2 0), .int .i64 (x.2 1), .int .i64 (x.2 2), .int .i64 (x.2 3), .int .i64 (x.2 4), .int .i64 (x.2 5), .int .i64 (x.2 6), .int .i64 (x.2 7)] 200 (wyCell x) (fun o ho => by
    rcases lt9 (show o < 9 by simpa using ho) with rfl | rfl | rfl | rfl | rfl | rfl | rfl | rfl | rfl <;> rfl)
  rw [hb.cell (o := 0 * 9 + j) (by simp; omega)]
  simp
theorem dd_next (S : List Nat) (l : List Wy) (x : Wy) : ddS S (l ++ [x]) = if x.1 ∈ ends l ++ S then ddS S l else ddS S l ++ [x] := by
  rw [ddS_append]
  by_cases h : x.1 ∈ ends l ++ S
  · rw [if_pos h]
    simp [ddS, h]
  · rw [if_neg h]
    simp [ddS, h]
theorem mem_acc (a l : List Wy) (e : Nat) : e ∈ ends (joinL a l) ↔ e ∈ ends l ++ ends a := by
  rw [ends_join, List.mem_append, List.mem_append, mem_ddN]
  constructor
  · rintro (h | ⟨h, _⟩)
    · exact .inr h
    · exact .inl h
  · rintro (h | h)
    · by_cases he : e ∈ ends a
      · exact .inl he
      · exact .inr ⟨h, he⟩
    · exact .inl h
/-- The list grows by one way, or not. -/
theorem join_next {a b : List Wy} {k : Nat} (h : k < b.length) : joinL a (b.take (k + 1)) = if b[k].1 ∈ ends (joinL a (b.take k)) then joinL a (b.take k) else joinL a (b.take k) ++ [b[k]] := by
  rw [take_next h]
  conv => lhs; unfold joinL; rw [dd_next]
  by_cases he : b[k].1 ∈ ends (b.take k) ++ ends a
  · rw [if_pos he, if_pos ((mem_acc _ _ _).2 he)]
    rfl
  · rw [if_neg he, if_neg (fun h => he ((mem_acc _ _ _).1 h))]
    unfold joinL
    rw [List.append_assoc]
set_option maxRecDepth 100000 in
set_option maxHeartbeats 8000000 in
theorem wjoin_any {w : World} {va vb : Value} {a b : List Wy} {n : Nat} (ha : WysAt w va a) (hb : WysAt w vb b) (hn : n ≤ 256) (ea : ∀ x ∈ a, x.1 ≤ n) (eb : ∀ x ∈ b, x.1 ≤ n) (na : (ends a).Nodup) (lb : b.length ≤ 300) (hd : ∀ q, slB va q → ¬ slB vb q) (hvl : ∀ q, slB va q → q < w.heap.size) (hbl : ∀ q, slB vb q → q < w.heap.size) :
    Calls Tryz.prog 136 #[va, vb, .int .i64 (n : Nat)] w fun e w' => ∃ v', e = .returned v' ∧ WysAt w' v' (joinL a b) ∧ (∀ q, slB v' q → w.heap.size ≤ q ∨ slB va q) ∧ Fr (slB va) w w' := by
  have hnI : (n : Int) ≤ 256 := by omega
  have lA := ways_len na ea
  obtain ⟨aa, ac, hva, hA⟩ := ha.sl
  obtain ⟨ab, bc, hvb, hB⟩ := hb.sl
  have Hva : Hid (va = .slice aa a.length ac) := hva
  have Hvb : Hid (vb = .slice ab b.length bc) := hvb
  rw [hva, hvb]
  clear hva hvb
  have lAI : (a.length : Int) ≤ 257 := by omega
  have lBI : (b.length : Int) ≤ 300 := by omega
  go_enter Tryz.func136, Tryz.ntmps136
  go_wp2_with (refine wpList_makeB (by rfl) 231 _ _ (by rfl) 4 1 1 (.bool false) (n + 1) (by rfl) (by rfl) Tryz.underlying231 (by kernel_rfl) (by kernel_rfl) (by kernel_rfl) (by omega) (by omega) ?_; intro w1 f1 z1 b1)
  have b1' : Blk w1 w.heap.size (n + 1) (seenF []) := by
    rw [Nat.mul_one] at b1
    exact b1.congr (fun o _ => by simp [seenF, Value.cells, Nat.mod_one])
  clear b1
  go_loopg [8] a.length (fun g kv wr => ∃ k : Nat, kv = .int .i64 (k : Nat) ∧ k + g = a.length ∧ Blk wr w.heap.size (n + 1) (seenF (ends (a.take k))) ∧ Fr (fun _ => False) w wr)
  case atStart => exact ⟨0, rfl, by omega, by simpa [ends] using b1', f1⟩
  case round =>
    obtain ⟨k, rfl, hkg, hS, hfr⟩ := hrel
    have hkg' : k + gk = a.length := hkg
    clear hkg b1' f1 z1
    by_cases hlt : k < a.length
    · have hkI : decide ((k : Int) < a.length) = true := decide_eq_true (by omega)
      rcases hA with hA | ⟨q, rfl, hA⟩
      · rw [hA] at hlt; simp at hlt
      have ek := ea a[k] (List.getElem_mem hlt)
      have ekI : (a[k].1 : Int) ≤ n := by omega
      have cE := (hA.frame hfr (fun h => h)) k hlt 0 (by omega)
      simp only [wyCell, Nat.add_zero] at cE
      have cS := hS.cell (o := a[k].1) (by omega)
      have zS := hS.frozen
      have lS := hS.lt
      have hql : q < w.heap.size := hvl q ⟨_, _, Hva.out⟩
      have hqr := hfr.size
      have hS2 := (hS.set a[k].1 (.bool true)).congr (g := seenF (ends (a.take (k + 1)))) (fun o _ => seen_set _ _ _ (fun x => by rw [take_next hlt, ends_append, ends_one, List.mem_append, List.mem_singleton]) o)
      have F2 := hfr.setNew (o := a[k].1) (u := .bool true) (Nat.le_refl w.heap.size)
      generalize a[k].1 = e at *
      go_wp2_with fail
      go_roundg (gk - 1)
      case measure => omega
      case rel => exact ⟨k + 1, by simp, by omega, hS2, F2⟩
    · have hkI : decide ((k : Int) < a.length) = false := decide_eq_false (by omega)
      have hk : a.take k = a := List.take_of_length_le (by omega)
      rw [hk] at hS
      have haR := ha.frame hfr (fun _ _ _ _ h => h)
      rw [Hva.out] at haR
      have F0 : Fr (slB va) w wr := hfr.mono (fun _ _ h => h.elim)
      have hsz := hfr.size
      go_wp2_with fail
      go_loopg [9, 0] b.length (fun g kv av wq => ∃ j : Nat, kv = .int .i64 (j : Nat) ∧ j + g = b.length ∧ WysAt wq av (joinL a (b.take j)) ∧ (∀ q, slB av q → w.heap.size < q ∨ slB va q) ∧ Blk wq w.heap.size (n + 1) (seenF (ends (joinL a (b.take j)))) ∧ Fr (slB va) w wq)
      case atStart => exact ⟨0, rfl, by omega, by simpa [joinL, ddS] using haR, fun q h => .inr (by rw [Hva.out]; exact h), by simpa [joinL, ddS] using hS, F0⟩
      case round =>
        obtain ⟨j, rfl, hjg, hW, hown, hSq, hfq⟩ := hrel
        have hjg' : j + gk = b.length := hjg
        clear hjg haR F0 hS
        have hszq := hfq.size
        have hSl := hSq.lt
        by_cases hjl : j < b.length
        · have hjI : decide ((j : Int) < b.length) = true := decide_eq_true (by omega)
          rcases hB with hB | ⟨q, rfl, hB⟩
          · rw [hB] at hjl; simp at hjl
          have hq : slB vb q := ⟨_, _, Hvb.out⟩
          have hql : q < w.heap.size := hbl q hq
          have hBq := hB.frame hfq (fun h => hd q h hq)
          have ek := eb b[j] (List.getElem_mem hjl)
          have ekI : (b[j].1 : Int) ≤ n := by omega
          have c0 := hBq j hjl 0 (by omega)
          have c1 := hBq j hjl 1 (by omega)
          have c2 := hBq j hjl 2 (by omega)
          have c3 := hBq j hjl 3 (by omega)
          have c4 := hBq j hjl 4 (by omega)
          have c5 := hBq j hjl 5 (by omega)
          have c6 := hBq j hjl 6 (by omega)
          have c7 := hBq j hjl 7 (by omega)
          have c8 := hBq j hjl 8 (by omega)
          simp only [wyCell, Nat.add_zero] at c0 c1 c2 c3 c4 c5 c6 c7 c8
          have hnx := join_next (a := a) hjl
          have zS := hSq.frozen
          have cS := hSq.cell (o := b[j].1) (by omega)
          simp only [seenF] at cS
          by_cases he : b[j].1 ∈ ends (joinL a (b.take j))
          · rw [if_pos he] at hnx
            rw [decide_eq_true he] at cS
            rw [← hnx] at hW hSq
            have HW : Hid _ := hW
            have HS : Hid _ := hSq
            clear hW hSq hnx he
            generalize b[j].1 = e at *
            go_wp2_with fail
            go_roundg (gk - 1)
            case measure => omega
            case rel => exact ⟨j + 1, by simp, by omega, HW.out, hown, HS.out, hfq⟩
          · rw [if_neg he] at hnx
            rw [decide_eq_false he] at cS
            have hacc : (joinL a (b.take j)).length ≤ n + 1 := ways_len (join_nodup na) (fun x hx => (mem_join hx).elim (ea x) (fun h => eb x (List.mem_of_mem_take h)))
            have hS2 := (hSq.set b[j].1 (.bool true)).congr (g := seenF (ends (joinL a (b.take (j + 1))))) (fun o _ => seen_set _ _ _ (fun x => by rw [hnx, ends_append, ends_one, List.mem_append, List.mem_singleton]) o)
            have k2 := (Fr.refl (fun c => c = w.heap.size) wr).setC w.heap.size b[j].1 (.bool true) (fun _ => rfl)
            have hW2 := hW.frame k2 (fun c n' cp e h => by
              rcases hown c ⟨_, _, e⟩ with h1 | h1
              · omega
              · have := hvl c h1; omega)
            have F2 := hfq.setNew (o := b[j].1) (u := .bool true) (Nat.le_refl w.heap.size)
            have hB2 := hBq.frame k2 (by omega)
            have d0 := hB2 j hjl 0 (by omega)
            have d1 := hB2 j hjl 1 (by omega)
            have d2 := hB2 j hjl 2 (by omega)
            have d3 := hB2 j hjl 3 (by omega)
            have d4 := hB2 j hjl 4 (by omega)
            have d5 := hB2 j hjl 5 (by omega)
            have d6 := hB2 j hjl 6 (by omega)
            have d7 := hB2 j hjl 7 (by omega)
            have d8 := hB2 j hjl 8 (by omega)
            simp only [wyCell, Nat.add_zero] at d0 d1 d2 d3 d4 d5 d6 d7 d8
            have Hnx : Hid _ := hnx
            clear hnx he hSq hW c1 c2 c3 c4 c5 c6 c7 c8
            obtain ⟨acc, Hacc⟩ : ∃ acc, Hid (acc = joinL a (b.take j)) := ⟨_, rfl⟩
            rw [← Hacc.out] at hacc hW2 Hnx
            have hx1 := WPAt.one (wr.setCell ⟨w.heap.size, b[j].1, none⟩ (.bool true)) b[j]
            have F3 := F2.alloc (.cells #[.int .i64 (b[j].1 : Nat), .int .i64 (b[j].2 0), .int .i64 (b[j].2 1), .int .i64 (b[j].2 2), .int .i64 (b[j].2 3), .int .i64 (b[j].2 4), .int .i64 (b[j].2 5), .int .i64 (b[j].2 6), .int .i64 (b[j].2 7)] 200)
            have k3 := (Fr.refl (fun _ => False) (wr.setCell ⟨w.heap.size, b[j].1, none⟩ (.bool true))).alloc (.cells #[.int .i64 (b[j].1 : Nat), .int .i64 (b[j].2 0), .int .i64 (b[j].2 1), .int .i64 (b[j].2 2), .int .i64 (b[j].2 3), .int .i64 (b[j].2 4), .int .i64 (b[j].2 5), .int .i64 (b[j].2 6), .int .i64 (b[j].2 7)] 200)
            have hW3 := hW2.frame k3 (fun _ _ _ _ h => h)
            have hS3 := hS2.frame k3 (fun h => h)
            rw [World.size_setCell] at hx1
            obtain ⟨va2, vc2, hvv, _⟩ := hW3.sl
            subst hvv
            go_wp2_with (at_builtin; refine wpList_appendWy (by rfl) _ _ (by rfl) (.slice va2 acc.length vc2) acc b[j] wr.heap.size 1 (by rfl) (by rfl) hW3 hx1 (by omega) ?_; intro v' w8 hc hb8 f8)
            have hS8 := hS3.frame f8 (fun ⟨n', c', e⟩ => by
              rcases hown w.heap.size ⟨_, _, e⟩ with h1 | h1
              · omega
              · have := hvl _ h1; omega)
            have hown8 : ∀ q, slB v' q → w.heap.size < q ∨ slB va q := fun q ⟨n', c', e⟩ => by
              rcases hb8 q n' c' e with h1 | ⟨n2, c2, h1⟩
              · simp only [World.size_alloc, World.size_setCell] at h1; exact .inl (by omega)
              · exact hown q ⟨_, _, h1⟩
            have F8 : Fr (slB va) w w8 := F3.trans f8 (fun q hq ⟨n', c', e⟩ => by
              rcases hown q ⟨_, _, e⟩ with h1 | h1
              · omega
              · exact h1)
            rw [← Hnx.out] at hc
            go_roundg (gk - 1)
            case measure => omega
            case rel => exact ⟨j + 1, by simp, by omega, hc, hown8, hS8, F8⟩
        · have hjI : decide ((j : Int) < b.length) = false := decide_eq_false (by omega)
          have hj : b.take j = b := List.take_of_length_le (by omega)
          rw [hj] at hW
          have HW : Hid _ := hW
          clear hW
          go_wp2_with fail
          go_ret
          rw [Hva.out] at hown hfq
          exact ⟨_, rfl, HW.out, fun q h => (hown q h).imp (fun h => by omega) id, hfq⟩
end Go.Proofs.Qxb6500283aGreat
