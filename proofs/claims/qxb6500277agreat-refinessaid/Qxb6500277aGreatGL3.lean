/- The law's small functions (written by mkGL3.py out of seat 281Z's texts). -/
import Derived.Test.Qxb6500277aGreatVL3
import Derived.Test.Qxb6500277aGreatGL2
import Derived.Test.Qxb6500277aGreatText7
namespace Go.Proofs.Qxb6500277aGreat
open Go Go.RowKit

set_option maxHeartbeats 1000000 in
theorem sameInts {w : World} {v1 v2 : Value} {p : List Int} (h1 : KiAt w v1 p) (h2 : KiAt w v2 p) (hl : p.length ≤ 2000) :
    Calls Tryz.prog 31 #[v1, v2] w fun v w' => v = .returned (.bool true) ∧ Fr (fun _ => False) w w' := by
  have hlb : (p.length : Int) ≤ 2000 := by omega
  by_cases h0 : p = []
  · obtain ⟨a1, k1, rfl, _⟩ := h1.sl
    obtain ⟨a2, k2, rfl, _⟩ := h2.sl
    subst h0
    simp only [List.length_nil]
    go_enter Tryz.func31, Tryz.ntmps31
    go_wp2_with fail
    refine wp_loop_rounds 1 ?_
    rw [rounds_succ]
    go_wp2_with fail
    go_ret
    exact ⟨rfl, Fr.refl _ _⟩
  · rcases h1 with ⟨_, hh⟩ | ⟨b1, k1, f1, rfl, hm1, hB1, hf1⟩
    · exact absurd hh h0
    rcases h2 with ⟨_, hh⟩ | ⟨b2, k2, f2, rfl, hm2, hB2, hf2⟩
    · exact absurd hh h0
    clear h0
    go_enter Tryz.func31, Tryz.ntmps31
    go_wp2_with fail
    go_loopg [5] p.length (fun g iv wr => ∃ i : Nat, iv = .int .i64 i ∧ i + g = p.length ∧ Fr (fun _ => False) w wr)
    case atStart => exact ⟨0, rfl, by omega, Fr.refl _ _⟩
    case round =>
      obtain ⟨i, rfl, hg, hfr⟩ := hrel
      have hg' : i + gk = p.length := hg
      clear hg
      have ib : (i : Int) ≤ 2000 := by omega
      by_cases hlt : i < p.length
      · have hI : decide ((i : Int) < (p.length : Nat)) = true := decide_eq_true (by omega)
        have hC1 := hB1.frame hfr (fun h => h)
        have hC2 := hB2.frame hfr (fun h => h)
        have a0 := hC1.cell (o := i) (by omega)
        rw [hf1 i hlt] at a0
        have d0 := hC2.cell (o := i) (by omega)
        rw [hf2 i hlt] at d0
        have l1 := hC1.lt
        have l2 := hC2.lt
        go_wp2_with fail
        go_quiet (fail)
        go_wp2_with fail
        go_roundg (gk - 1)
        case measure => omega
        case rel => exact ⟨i + 1, by simp, by omega, hfr.drewN _⟩
      · have hI : decide ((i : Int) < (p.length : Nat)) = false := decide_eq_false (by omega)
        go_wp2_with fail
        go_ret
        exact ⟨rfl, hfr⟩
set_option maxHeartbeats 1000000 in
theorem spoilF {w : World} {v : Value} {p : List Int} (h : KiAt w v p) (hl : p.length ≤ 2000) : Calls Tryz.prog 16 #[v] w fun e w' => e = .returned (.tuple #[]) ∧ KiAt w' v (List.replicate p.length stmp) ∧ Fr (isB v) w w' := by
  obtain ⟨a, k, hv, hk⟩ := h.sl
  go_enter Tryz.func16, Tryz.ntmps16
  rw [hv]
  go_wp2_with fail
  go_loopg [2] p.length (fun g iv wr => ∃ i : Nat, iv = .int .i64 i ∧ i + g = p.length ∧ KiAt wr v (List.replicate i stmp ++ p.drop i) ∧ Fr (isB v) w wr)
  case atStart => exact ⟨0, rfl, by omega, by simpa using h, Fr.refl _ _⟩
  case round =>
    obtain ⟨i, rfl, hg, hK, hfr⟩ := hrel
    have hg' : i + gk = p.length := hg
    clear hg
    have ib : (i : Int) ≤ 2000 := by omega
    by_cases hlt : i < p.length
    · have hI : decide ((i : Int) < (p.length : Nat)) = true := decide_eq_true (by omega)
      have hlen : (List.replicate i stmp ++ p.drop i).length = p.length := by simp; omega
      obtain ⟨b, c, e1, _, e3, e4, e5, e6⟩ := hK.set (i := i) (by rw [hlen]; exact hlt)
      replace e6 := e6 stmp
      rw [spoil_set p hlt] at e6
      rw [hlen] at e1
      have e2 := hv.symm.trans e1
      cases e2
      have F := hfr.setC b i (.int .i64 stmp) (fun _ => ⟨_, _, e1⟩)
      have Hk : Hid (_ ∧ _) := ⟨e6, F⟩
      generalize (List.replicate i stmp ++ p.drop i)[i] = old at e4
      clear hlen hK hfr e6 F e1
      go_wp2_with fail
      go_roundg (gk - 1)
      case measure => omega
      case rel => exact ⟨i + 1, by simp, by omega, Hk.out.1, Hk.out.2⟩
    · have hI : decide ((i : Int) < (p.length : Nat)) = false := decide_eq_false (by omega)
      obtain rfl : i = p.length := by omega
      simp only [List.drop_length, List.append_nil] at hK
      go_wp2_with fail
      go_end0
      rw [← hv]
      exact ⟨rfl, hK, hfr⟩
set_option maxHeartbeats 2000000 in
theorem untouchedF {w : World} {mv : Value} {n : Nat} {f : Nat → Value} (h : MnA w mv n f) : Calls Tryz.prog 14 #[mv] w fun e w' => e = .returned (.bool true) ∧ w' = w := by
  obtain ⟨a, k, hv⟩ := h.os.sl
  have hle := h.le
  go_enter Tryz.func14, Tryz.ntmps14
  rw [hv]
  go_wp2_with fail
  go_loopg [3, 4] n (fun g iv _ wr => ∃ i : Nat, iv = .int .i64 i ∧ i + g = n ∧ wr = w)
  case atStart => exact ⟨0, rfl, by omega, rfl⟩
  case round =>
    obtain ⟨i, rfl, hg, hw⟩ := hrel
    subst hw
    have hg' : i + gk = n := hg
    clear hg
    have ib : (i : Int) ≤ 2000 := by omega
    by_cases hlt : i < n
    · have hI : decide ((i : Int) < (n : Nat)) = true := decide_eq_true (by omega)
      rcases h.os with ⟨_, h0⟩ | ⟨b, cap, e1, hc, hB⟩
      · omega
      have e2 := hv.symm.trans e1
      cases e2
      clear e1
      have hs := h.st i hlt
      obtain ⟨q, hq, hK⟩ := hs
      have ci := hB.cell (o := i) (by omega)
      have hbl := hB.lt
      obtain ⟨a2, k2, hf, _⟩ := hK.sl
      simp only [List.length_replicate] at hf
      rw [hf] at ci hK
      clear hf
      have hii : (i : Int) < n := by omega
      obtain ⟨g1, hg1⟩ : ∃ g1, g1 = gk := ⟨_, rfl⟩
      rw [← hg1] at hg'
      subst hg1
      go_wp2_with fail
      go_loopg [4] q (fun g jv w2 => ∃ j : Nat, jv = .int .i64 j ∧ j + g = q ∧ w2 = wr)
      case atStart => exact ⟨0, rfl, by omega, rfl⟩
      case round =>
        obtain ⟨j, rfl, hg, hw⟩ := hrel
        subst hw
        have hgj : j + gk = q := hg
        clear hg
        have jb : (j : Int) ≤ 2000 := by omega
        by_cases hj : j < q
        · have hJ : decide ((j : Int) < (q : Nat)) = true := decide_eq_true (by omega)
          obtain ⟨lb, lc, e1, e3, e4, e5⟩ := hK.get (i := j) (by simpa using hj)
          simp only [List.length_replicate, List.getElem_replicate] at e1 e4
          cases e1
          go_wp2_with fail
          go_roundg (gk - 1)
          case measure => omega
          case rel => exact ⟨j + 1, by simp, by omega, rfl⟩
        · have hJ : decide ((j : Int) < (q : Nat)) = false := decide_eq_false (by omega)
          go_wp2_with fail
          go_roundg (g1 - 1)
          case measure => omega
          case rel => exact ⟨i + 1, by simp, by omega, rfl⟩
    · have hI : decide ((i : Int) < (n : Nat)) = false := decide_eq_false (by omega)
      go_wp2_with fail
      go_ret
      exact ⟨rfl, rfl⟩
section
variable {ops : Array Oper} {Q : Exit → Act → World → Prop} {a : Act} {w : World} {rest : List Oper} {o : Oper}
set_option maxRecDepth 100000 in
theorem wpList_appendS (hgd : o.guard = none) (s x : Operand) (ho : o.op = .call { callee := .builtin .append, args := #[s, x], argTypes := #[42, 42] })
    (v : Value) (n : Nat) (f : Nat → Value) (v1 : Value) (xb xc : Nat) (hs : a.eval s = v) (hx : a.eval x = .slice (some ⟨xb, 0, none⟩) 1 xc) (hv : OS w v n f) (hx1 : w.cell? ⟨xb, 0, none⟩ = some v1) (h2 : v1.oneCell' = true) (hlen : n ≤ 2000)
    (h : ∀ v' w' f', OS w' v' (n + 1) f' → (∀ j, j < n → f' j = f j) → f' n = v1 → (∀ b, isB v' b → w.heap.size ≤ b ∨ isB v b) → Fr (isB v) w w' → wpList Tryz.prog ops Q rest (a.put o.dst v') w') : wpList Tryz.prog ops Q (o :: rest) a w := by
  obtain ⟨ti, hi, hz, hsz, hby⟩ : ∃ ti, Tryz.prog.info? 36 = some ti ∧ ti.zero = some (.slice none 0 0) ∧ ti.size = 1 ∧ ti.bytes = 24 := by
    have e1 : (Tryz.prog.info? 36).map (·.size) = some 1 := by kernel_rfl
    have e2 : (Tryz.prog.info? 36).map (·.bytes) = some 24 := by kernel_rfl
    have e3 : (Tryz.prog.info? 36).bind (·.zero) = some (.slice none 0 0) := by kernel_rfl
    cases hq : Tryz.prog.info? 36 with
    | none => rw [hq] at e1; cases e1
    | some ti =>
      rw [hq] at e1 e2 e3
      exact ⟨ti, rfl, by simpa using e3, by simpa using e1, by simpa using e2⟩
  have hz9 : (Value.slice none 0 0).cells.size = 1 := by kernel_rfl
  have hadd : ∀ (b j : Nat), (⟨b, 0, none⟩ : Addr).add j = ⟨b, j, none⟩ := fun b j => by rw [Addr.add_lit]; simp
  have hnews : ∀ j u, [v1][j]? = some u → w.cell? ((⟨xb, 0, none⟩ : Addr).add j) = some u := fun j u e => by
    rw [hadd]
    match j, e with
    | 0, e => cases e; exact hx1
  have hone : ∀ u ∈ [v1], u.oneCell' = true := fun u hu => by
    simp only [List.mem_cons, List.not_mem_nil, or_false] at hu
    rw [hu]; exact h2
  have hgrow : ∀ v' w', w'.ownsRow w.heap.size 36 1 v' (n + 1) (rowS f n ++ [v1]) → w.grownBy w' none → wpList Tryz.prog ops Q rest (a.put o.dst v') w' := by
    intro v' w' hw1 hw2
    obtain ⟨_, ⟨_, h0⟩ | ⟨g, cap, cur, rfl, hg, hb, hn, _, hs, ht⟩⟩ := hw1
    · omega
    · have hcur : ∀ j u, j < n + 1 → (rowS f n ++ [v1])[j]? = some u → cur.getD j undef = u := fun j u hj e => by
        rw [← ht, List.getElem?_take] at e
        split at e
        · have hjs : j < cur.size := by omega
          simp [hjs] at e ⊢; exact e
        · omega
      refine h _ w' (fun o => cur.getD o undef) (.inr ⟨g, cap, rfl, hn, ⟨cur, 36, hb, by omega, fun o ho => by simp [show o < cur.size by omega]⟩⟩) (fun j hj => ?_) ?_ (fun b hb' => .inl (by rw [isB_one hb']; exact hg)) ((Fr.grownI hw2).mono (fun _ _ h => h.elim))
      · refine hcur j (f j) (by omega) ?_
        rw [List.getElem?_append_left (by rw [rowS_len]; exact hj)]
        simp [rowS, hj]
      · refine hcur _ v1 (by omega) ?_
        rw [List.getElem?_append_right (by rw [rowS_len]; omega), rowS_len]
        simp
  rcases hv with ⟨rfl, rfl⟩ | ⟨b, cap, rfl, hc, hb⟩
  · exact wpList_append_grows w hgd s x 42 ho 36 ti _ 1 24 Tryz.underlying42 hi hz hsz hby hz9 (by omega) none 0 0 [] hs (fun _ => ⟨rfl, rfl⟩) rfl (fun _ e => by cases e) ⟨xb, 0, none⟩ 1 xc [v1] hx rfl hnews hone (by omega) (by simp [maxLen]) (by omega)
      (fun v' w' g1 g2 => hgrow v' w' g1 g2)
  · refine wpList_append_arg w hgd s x 42 ho 36 ti _ 1 24 Tryz.underlying42 hi hz hsz hby hz9 (by omega) b 0 n cap (rowS f n) hs (by simp [rowS_len]) (fun j u e => ?_)
      ⟨xb, 0, none⟩ 1 xc [v1] hx rfl hnews hone (fun hr j hj => ?_) (by simp only [maxLen]; omega) (by omega) (fun hr => ?_) (fun _ v' w' g1 g2 => hgrow v' w' g1 g2)
    · obtain ⟨hj, rfl⟩ := rowS_get e
      rw [Nat.zero_add, hb.cell (by omega)]
    · have hj2 : j < 1 := by simpa using hj
      rw [hb.cell (by omega)]
      exact ⟨rfl, hb.frozen _⟩
    · refine h _ _ (lay f (0 + n * 1) [v1]) (.inr ⟨b, cap, rfl, hr, hb.setCells _ _⟩) (fun j hj => lay_out _ _ _ _ (.inl (by omega))) ?_ (fun b' e => .inr (by rw [isB_one e]; exact ⟨_, _, rfl⟩)) ((Fr.refl _ _).setCells b (fun _ => ⟨_, _, rfl⟩) _ _)
      · rw [lay_in _ _ _ _ (by omega) (by simp)]; simp
end
set_option maxHeartbeats 1000000 in
theorem keepF {w : World} {mv xv : Value} {n q : Nat} {f : Nat → Value} (hM : MnA w mv n f) (hx : KiAt w xv (List.replicate q stmp)) (hq : q ≤ 2000) (hne : ∀ c, isB mv c → ¬ isB xv c ∧ ∀ j, j < n → ¬ isB (f j) c) :
    Calls Tryz.prog 17 #[mv, xv] w fun e w' => ∃ mv' n' f', e = .returned mv' ∧ KeepR w mv xv n f mv' n' f' w' := by
  obtain ⟨a, k, hv, _⟩ := hx.sl
  obtain ⟨a2, k2, hv2⟩ := hM.os.sl
  have hle := hM.le
  simp only [List.length_replicate] at hv
  by_cases hq0 : q = 0
  · subst hq0
    have res : KeepR w mv xv n f mv n f w := .mk' hM hx hq hne hM.le hM.os (fun c hc => .inr hc) (fun j hj => .inr ⟨j, hj, rfl⟩) (Fr.refl _ _)
    rw [hv, hv2] at res ⊢
    go_enter Tryz.func17, Tryz.ntmps17
    go_wp2_with fail
    go_ret
    exact ⟨_, _, _, rfl, res⟩
  have hqi : ((q : Int) == 0) = false := by simp; omega
  by_cases hn : n < 16
  · have hni : (n : Int) < 16 := by omega
    have kA := (Fr.refl (fun _ => False) w).alloc (.cells #[xv] 36)
    have x0 : (w.alloc (.cells #[xv] 36)).cell? ⟨w.heap.size, 0, none⟩ = some xv := (Blk.new w #[xv] 36 (fun _ => xv) (fun o ho => by
      have ho : o < 1 := by simpa using ho
      obtain rfl : o = 0 := by omega
      rfl)).cell (by simp)
    have OA' := hM.os.frame kA (fun _ _ h => h)
    have kz := kA.size
    have hone : xv.oneCell' = true := by rw [hv]; rfl
    have HK : Hid (∀ v' w' f', OS w' v' (n + 1) f' → (∀ j, j < n → f' j = f j) → f' n = xv → (∀ b, isB v' b → (w.alloc (.cells #[xv] 36)).heap.size ≤ b ∨ isB mv b) → Fr (isB mv) (w.alloc (.cells #[xv] 36)) w' → KeepR w mv xv n f v' (n + 1) f' w') := by
      refine fun v' w' f' h1 h2 h3 h4 h5 => .mk' hM hx hq hne (by omega) h1 (fun c hc => ?_) (fun j hj => ?_) ((kA.mono (fun _ _ h => h.elim)).trans h5 (fun _ _ h => h))
      · rcases h4 c hc with h | h
        · exact .inl (Nat.le_trans kz h)
        · exact .inr h
      · by_cases e : j < n
        · exact .inr ⟨j, e, h2 j e⟩
        · obtain rfl : j = n := by omega
          exact .inl h3
    subst hv hv2
    clear hM hx hne kA kz
    go_enter Tryz.func17, Tryz.ntmps17
    go_wp2_with (
      at_builtin
      refine wpList_appendS (by rfl) _ _ (by rfl) _ n f _ w.heap.size 1 (by rfl) (by rfl) OA' x0 hone (by omega) ?_
      intro v' w5 f' h1 h2 h3 h4 h5)
    have R := HK.out v' w5 f' h1 h2 h3 h4 h5
    clear h4 h5 HK
    go_wp2_with fail
    go_ret
    exact ⟨_, _, _, rfl, R⟩
  · obtain rfl : n = 16 := by omega
    rcases hM.os with ⟨_, h0⟩ | ⟨b, cap, e1, hc, hB⟩
    · omega
    have hone : ∀ j, j < 16 → ∃ a k n, f j = .slice a n k := fun j hj => by
      obtain ⟨n, _, hK⟩ := hM.st j hj
      obtain ⟨a, k, e, _⟩ := hK.sl
      exact ⟨a, k, _, e⟩
    have e2 := hv2.symm.trans e1
    cases e2
    have HK : Hid (∀ w', Blk w' b k2 (upd (sh f 15) 15 xv) → Fr (isB mv) w w' → KeepR w mv xv 16 f mv 16 (upd (sh f 15) 15 xv) w') := by
      refine fun w' h1 h2 => .mk' hM hx hq hne (by omega) (.inr ⟨b, k2, hv2, hc, h1⟩) (fun c hc => .inr hc) (fun j hj => ?_) h2
      simp only [upd]
      by_cases e : j = 15
      · rw [if_pos e]; exact .inl rfl
      · rw [if_neg e]
        refine .inr ⟨j + 1, by omega, ?_⟩
        simp only [sh]; rw [if_pos (by omega)]
    have hfr0 : Fr (isB mv) w w := Fr.refl _ _
    have hmb : isB mv b := ⟨_, _, hv2⟩
    have Hmb : Hid _ := hmb
    subst hv hv2
    clear hM hne hx e1 hmb
    go_enter Tryz.func17, Tryz.ntmps17
    go_wp2_with fail
    go_loopg [5] 15 (fun g iv wr => ∃ j : Nat, iv = .int .i64 ((j + 1 : Nat) : Int) ∧ j + g = 15 ∧ Blk wr b k2 (sh f j) ∧ Fr (isB (.slice (some ⟨b, 0, none⟩) 16 k2)) w wr)
    case atStart => exact ⟨0, rfl, by omega, by rw [sh_zero]; exact hB, hfr0⟩
    case round =>
      obtain ⟨j, rfl, hg, hb, hfr⟩ := hrel
      have hg' : j + gk = 15 := hg
      clear hg hB hfr0
      have hbl := hb.lt
      have hbz := hb.frozen
      by_cases hlt : j < 15
      · have hI : decide (((j + 1 : Nat) : Int) < 16) = true := decide_eq_true (by omega)
        have hj1 : ((j + 1 : Nat) : Int) - 1 = j := by omega
        have hj2 : ((j + 1 : Nat) : Int) ≤ 16 := by omega
        obtain ⟨a3, k3, n3, hf3⟩ := hone (j + 1) (by omega)
        have c1 := hb.cell (o := j + 1) (by omega)
        rw [sh_at, hf3] at c1
        have c0 := hb.cell (o := j) (by omega)
        have hs := hb.set j (f (j + 1))
        rw [sh_succ] at hs
        have F := hfr.setC b j (f (j + 1)) (fun _ => Hmb.out)
        rw [hf3] at hs F
        have Hk : Hid (_ ∧ _) := ⟨hs, F⟩
        clear hb hfr hs F
        go_wp2_with fail
        go_roundg (gk - 1)
        case measure => omega
        case rel => exact ⟨j + 1, by simp, by omega, Hk.out.1, Hk.out.2⟩
      · obtain rfl : j = 15 := by omega
        have c0 := hb.cell (o := 15) (by omega)
        have hs := hb.set 15 (.slice a q k)
        have F := hfr.setC b 15 (.slice a q k) (fun _ => Hmb.out)
        have R := HK.out _ hs F
        have Hk : Hid _ := R
        clear hb hfr hs F R HK
        go_wp2_with fail
        go_ret
        exact ⟨_, _, _, rfl, Hk.out⟩
set_option maxRecDepth 100000 in
set_option maxHeartbeats 1000000 in
/-- A fresh copy; nil for an empty list. -/
theorem copyInts {w : World} {v : Value} {p : List Int} (h : KiAt w v p) (hl : p.length ≤ 2000) : Calls Tryz.prog 18 #[v] w fun e w' => ∃ v', e = .returned v' ∧ KiX w' v' p ∧ (∀ b, isB v' b → w.heap.size ≤ b) ∧ Fr (fun _ => False) w w' := by
  by_cases h0 : p = []
  · obtain ⟨a1, k1, rfl, _⟩ := h.sl
    subst h0
    simp only [List.length_nil]
    go_enter Tryz.func18, Tryz.ntmps18
    go_wp2_with fail
    go_ret
    exact ⟨_, rfl, .inl ⟨rfl, rfl⟩, fun b hb => absurd hb (nil_noB b), Fr.refl _ _⟩
  · rcases h with ⟨_, hh⟩ | ⟨ob, ocap, fo, rfl, hcap, hBo, hfo⟩
    · exact absurd hh h0
    have hpos : 0 < p.length := List.length_pos_iff.2 h0
    have y2 : ((p.length : Int) == 0) = false := by simp; omega
    have hfo1 : ∀ j, j < p.length * 1 → (fo (0 + j)).oneCell' = true := fun j hj => by rw [Nat.zero_add, hfo j (by omega)]; rfl
    have hobl := hBo.lt
    have HB : Hid (Blk w ob ocap fo) := hBo
    clear hBo
    go_enter Tryz.func18, Tryz.ntmps18
    go_upto_region 4 with (
      refine wpList_makeB (w := w) (by rfl) 36 _ _ (by rfl) 3 1 8 (.int .i64 0) p.length (by rfl) (by rfl) Tryz.underlying36 (by kernel_rfl) (by kernel_rfl) (by kernel_rfl) (by omega) (by omega) ?_
      intro w4 F4 s4 B4)
    have hBo4 := HB.out.frame F4 (fun h => h)
    have HF4 : Hid _ := F4
    obtain ⟨nb, hnb⟩ : ∃ nb, nb = w.heap.size := ⟨_, rfl⟩
    rw [← hnb] at B4 ⊢
    have hnbo : ob ≠ nb := by omega
    have Hnb : Hid _ := hnb
    clear F4 hnb
    go_upto_region 5 with (
      refine wpList_copyA (w := w4) (by rfl) _ _ 36 36 (by rfl) 3 1 nb 0 p.length p.length ob 0 p.length ocap (p.length * 1) ocap p.length _ fo (by rfl) (by rfl) Tryz.underlying36 (by kernel_rfl) (Nat.min_self _).symm B4 hBo4 (by omega) (by omega) hfo1 ?_
      intro w5 F5 B5
      have HB5 : Hid _ := And.intro F5 B5
      clear F5 B5)
    go_wp2_with fail
    go_ret
    have hb5 := HB5.out.2
    rw [Nat.mul_one] at hb5
    refine ⟨_, rfl,   .inr ⟨nb, _, h0, rfl, hb5, fun i hi => ?_⟩, fun b hb => by rw [isB_one hb, Hnb.out]; exact Nat.le_refl _, HF4.out.trans HB5.out.1 (fun b hb h => by have := Hnb.out; omega)⟩
    rw [lay_in _ _ _ _ (by omega) (by rw [rowOf_length]; omega)]
    have := rowOf_get fo 0 p.length i hi
    rw [Nat.zero_add, hfo i hi] at this
    simp only [Nat.sub_zero]
    obtain ⟨_, h2⟩ := List.getElem?_eq_some_iff.1 this
    exact h2
end Go.Proofs.Qxb6500277aGreat
