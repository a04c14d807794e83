/- The law's own lists: Spoil, Spoilt, Untouched, Keep, Kept. -/
import Derived.Test.Qxb6500278aKL2
import Derived.Test.Qxb6500278aKI2
namespace Go.Proofs.Qxb6500278a
open Go Go.RowKit

abbrev stmp : Int := -7070707
theorem spoil_set (p : List Int) {i : Nat} (hi : i < p.length) : (List.replicate i stmp ++ p.drop i).set i stmp = List.replicate (i + 1) stmp ++ p.drop (i + 1) := by
  have e : (p.drop i).set 0 stmp = stmp :: p.drop (i + 1) := by rw [List.drop_eq_getElem_cons hi]; rfl
  rw [List.set_append_right _ _ (by simp), List.length_replicate, Nat.sub_self, e]
  simp [List.replicate_succ', List.append_assoc]
set_option maxHeartbeats 1000000 in
theorem spoilF {w : World} {v : Value} {p : List Int} (h : KiAt w v p) (hl : p.length ≤ 1000) : Calls Try.prog 18 #[v] w fun e w' => e = .returned (.tuple #[]) ∧ KiAt w' v (List.replicate p.length stmp) ∧ Fr (isB v) w w' := by
  obtain ⟨a, k, hv, hk⟩ := h.sl
  go_enter Try.func18, Try.ntmps18
  rw [hv]
  go_wp2_with fail
  go_loopg [2] p.length (fun g iv wr => ∃ i : Nat, iv = .int .i64 i ∧ i + g = p.length ∧ KiAt wr v (List.replicate i stmp ++ p.drop i) ∧ Fr (isB v) w wr)
  case atStart => exact ⟨0, rfl, by omega, by simpa using h, Fr.refl _ _⟩
  case round =>
    obtain ⟨i, rfl, hg, hK, hfr⟩ := hrel
    have hg' : i + gk = p.length := hg
    clear hg
    have ib : (i : Int) ≤ 1000 := by omega
    by_cases hlt : i < p.length
    · have hI : decide ((i : Int) < (p.length : Nat)) = true := decide_eq_true (by omega)
      have hlen : (List.replicate i stmp ++ p.drop i).length = p.length := by simp; omega
      obtain ⟨b, c, e1, _, e3, e4, e5, e6⟩ := hK.set (i := i) (by rw [hlen]; exact hlt)
      replace e6 := e6 stmp
      rw [spoil_set p hlt] at e6
      rw [hlen] at e1
      have e2 := hv.symm.trans e1
      cases e2
      have F := hfr.setC b i (.int .i64 stmp) (fun _ => ⟨_, _, e1⟩)
      have Hk : Hid (_ ∧ _) := ⟨e6, F⟩
      generalize (List.replicate i stmp ++ p.drop i)[i] = old at e4
      clear hlen hK hfr e6 F e1
      go_wp2_with fail
      go_roundg (gk - 1)
      case measure => omega
      case rel => exact ⟨i + 1, by simp, by omega, Hk.out.1, Hk.out.2⟩
    · have hI : decide ((i : Int) < (p.length : Nat)) = false := decide_eq_false (by omega)
      obtain rfl : i = p.length := by omega
      simp only [List.drop_length, List.append_nil] at hK
      go_wp2_with fail
      go_end0
      rw [← hv]
      exact ⟨rfl, hK, hfr⟩
set_option maxHeartbeats 1000000 in
theorem spoiltF {w : World} {v : Value} {n : Nat} (h : KiAt w v (List.replicate n stmp)) (hl : n ≤ 1000) : Calls Try.prog 56 #[v] w fun e w' => e = .returned (.bool true) ∧ w' = w := by
  obtain ⟨a, k, hv, hk⟩ := h.sl
  simp only [List.length_replicate] at hv
  go_enter Try.func56, Try.ntmps56
  rw [hv]
  go_wp2_with fail
  go_loopg [3] n (fun g iv wr => ∃ i : Nat, iv = .int .i64 i ∧ i + g = n ∧ wr = w)
  case atStart => exact ⟨0, rfl, by omega, rfl⟩
  case round =>
    obtain ⟨i, rfl, hg, hw⟩ := hrel
    subst hw
    have hg' : i + gk = n := hg
    clear hg
    have ib : (i : Int) ≤ 1000 := by omega
    by_cases hlt : i < n
    · have hI : decide ((i : Int) < (n : Nat)) = true := decide_eq_true (by omega)
      obtain ⟨b, c, e1, e3, e4, e5⟩ := h.get (i := i) (by simpa using hlt)
      simp only [List.length_replicate, List.getElem_replicate] at e1 e4
      have e2 := hv.symm.trans e1
      cases e2
      clear e1
      go_wp2_with fail
      go_roundg (gk - 1)
      case measure => omega
      case rel => exact ⟨i + 1, by simp, by omega, rfl⟩
    · have hI : decide ((i : Int) < (n : Nat)) = false := decide_eq_false (by omega)
      go_wp2_with fail
      go_ret
      exact ⟨rfl, rfl⟩
/-- A list that bears the stamp. -/
def Stp (w : World) (v : Value) : Prop := ∃ n, n ≤ 1000 ∧ KiAt w v (List.replicate n stmp)
/-- The lists' list. -/
def OS (w : World) (v : Value) (n : Nat) (f : Nat → Value) : Prop := (v = .slice none 0 0 ∧ n = 0) ∨ ∃ b cap, v = .slice (some ⟨b, 0, none⟩) n cap ∧ n ≤ cap ∧ Blk w b cap f
theorem OS.sl {w : World} {v : Value} {n : Nat} {f : Nat → Value} (h : OS w v n f) : ∃ a c, v = .slice a n c := by
  rcases h with ⟨rfl, rfl⟩ | ⟨b, cap, rfl, _⟩
  · exact ⟨_, _, rfl⟩
  · exact ⟨_, _, rfl⟩
theorem OS.bk {w : World} {v : Value} {n b : Nat} {f : Nat → Value} (h : OS w v n f) (hb : isB v b) : b < w.heap.size := by
  rcases h with ⟨rfl, rfl⟩ | ⟨b', cap, rfl, _, hB⟩
  · exact absurd hb (nil_noB b)
  · rw [isB_one hb]; exact hB.lt
theorem OS.frame {S : Nat → Prop} {w w' : World} {v : Value} {n : Nat} {f : Nat → Value} (h : OS w v n f) (k : Fr S w w') (hb : ∀ b, isB v b → ¬ S b) : OS w' v n f := by
  rcases h with h | ⟨b, cap, rfl, h1, h2⟩
  · exact .inl h
  · exact .inr ⟨b, cap, rfl, h1, h2.frame k (hb b ⟨_, _, rfl⟩)⟩
structure MnA (w : World) (mv : Value) (n : Nat) (f : Nat → Value) : Prop where
  le : n ≤ 16
  os : OS w mv n f
  st : ∀ j, j < n → Stp w (f j)
theorem Stp.frame {S : Nat → Prop} {w w' : World} {v : Value} (h : Stp w v) (k : Fr S w w') (hb : ∀ b, isB v b → ¬ S b) : Stp w' v := by
  obtain ⟨n, hn, h⟩ := h
  exact ⟨n, hn, h.frame k hb⟩
theorem Stp.bk {w : World} {v : Value} {b : Nat} (h : Stp w v) (hb : isB v b) : b < w.heap.size := by
  obtain ⟨n, hn, h⟩ := h
  exact h.bk hb
set_option maxHeartbeats 1000000 in
theorem untouchedF {w : World} {mv : Value} {n : Nat} {f : Nat → Value} (h : MnA w mv n f) : Calls Try.prog 34 #[mv] w fun e w' => e = .returned (.bool true) ∧ w' = w := by
  obtain ⟨a, k, hv⟩ := h.os.sl
  have hle := h.le
  go_enter Try.func34, Try.ntmps34
  rw [hv]
  go_wp2_with fail
  go_loopg [3] n (fun g iv wr => ∃ i : Nat, iv = .int .i64 i ∧ i + g = n ∧ wr = w)
  case atStart => exact ⟨0, rfl, by omega, rfl⟩
  case round =>
    obtain ⟨i, rfl, hg, hw⟩ := hrel
    subst hw
    have hg' : i + gk = n := hg
    clear hg
    have ib : (i : Int) ≤ 1000 := by omega
    by_cases hlt : i < n
    · have hI : decide ((i : Int) < (n : Nat)) = true := decide_eq_true (by omega)
      rcases h.os with ⟨_, h0⟩ | ⟨b, cap, e1, hc, hB⟩
      · omega
      have e2 := hv.symm.trans e1
      cases e2
      clear e1
      have hs := h.st i hlt
      obtain ⟨q, hq, hK⟩ := hs
      have ci := hB.cell (o := i) (by omega)
      have hbl := hB.lt
      obtain ⟨a2, k2, hf, _⟩ := hK.sl
      simp only [List.length_replicate] at hf
      rw [hf] at ci hK
      go_wp2_with fail
      refine (spoiltF hK hq).mono ?_
      rintro v w2 ⟨rfl, hw⟩
      subst w2
      go_wp2_with fail
      go_roundg (gk - 1)
      case measure => omega
      case rel => exact ⟨i + 1, by simp, by omega, rfl⟩
    · have hI : decide ((i : Int) < (n : Nat)) = false := decide_eq_false (by omega)
      go_wp2_with fail
      go_ret
      exact ⟨rfl, rfl⟩
set_option maxHeartbeats 1000000 in
theorem keptF {w : World} {wv xv mv : Value} {n : Nat} {f : Nat → Value} {p : List Int} (h1 : KiAt w wv p) (h2 : KiAt w xv p) (hl : p.length ≤ 1000) (h : MnA w mv n f) : Calls Try.prog 17 #[wv, xv, mv] w fun e w' => e = .returned (.bool true) ∧ Fr (fun _ => False) w w' := by
  go_enter Try.func17, Try.ntmps17
  go_wp2_with fail
  refine (sameList h1 h2 hl).mono ?_
  rintro v w2 ⟨rfl, f2⟩
  have hM : MnA w2 mv n f := ⟨h.le, h.os.frame f2 (fun _ _ h => h), fun j hj => (h.st j hj).frame f2 (fun _ _ h => h)⟩
  go_wp2_with fail
  refine (untouchedF hM).mono ?_
  rintro v w3 ⟨rfl, hw⟩
  subst w3
  go_wp2_with fail
  go_ret
  exact ⟨rfl, f2⟩
def rowS (f : Nat → Value) (n : Nat) : List Value := (List.range n).map f
theorem rowS_len (f : Nat → Value) (n : Nat) : (rowS f n).length = n := by simp [rowS]
theorem rowS_get {f : Nat → Value} {n j : Nat} {u : Value} (e : (rowS f n)[j]? = some u) : j < n ∧ u = f j := by
  obtain ⟨h1, h2⟩ := List.getElem?_eq_some_iff.1 e
  rw [rowS_len] at h1
  exact ⟨h1, by rw [← h2]; simp [rowS]⟩
section
variable {ops : Array Oper} {Q : Exit → Act → World → Prop} {a : Act} {w : World} {rest : List Oper} {o : Oper}
set_option maxRecDepth 100000 in
theorem wpList_appendS (hgd : o.guard = none) (s x : Operand) (ho : o.op = .call { callee := .builtin .append, args := #[s, x], argTypes := #[37, 37] })
    (v : Value) (n : Nat) (f : Nat → Value) (v1 : Value) (xb xc : Nat) (hs : a.eval s = v) (hx : a.eval x = .slice (some ⟨xb, 0, none⟩) 1 xc) (hv : OS w v n f) (hx1 : w.cell? ⟨xb, 0, none⟩ = some v1) (h2 : v1.oneCell' = true) (hlen : n ≤ 1000)
    (h : ∀ v' w' f', OS w' v' (n + 1) f' → (∀ j, j < n → f' j = f j) → f' n = v1 → (∀ b, isB v' b → w.heap.size ≤ b ∨ isB v b) → Fr (isB v) w w' → wpList Try.prog ops Q rest (a.put o.dst v') w') : wpList Try.prog ops Q (o :: rest) a w := by
  obtain ⟨ti, hi, hz, hsz, hby⟩ : ∃ ti, Try.prog.info? 36 = some ti ∧ ti.zero = some (.slice none 0 0) ∧ ti.size = 1 ∧ ti.bytes = 24 := by
    have e1 : (Try.prog.info? 36).map (·.size) = some 1 := by kernel_rfl
    have e2 : (Try.prog.info? 36).map (·.bytes) = some 24 := by kernel_rfl
    have e3 : (Try.prog.info? 36).bind (·.zero) = some (.slice none 0 0) := by kernel_rfl
    cases hq : Try.prog.info? 36 with
    | none => rw [hq] at e1; cases e1
    | some ti =>
      rw [hq] at e1 e2 e3
      exact ⟨ti, rfl, by simpa using e3, by simpa using e1, by simpa using e2⟩
  have hz9 : (Value.slice none 0 0).cells.size = 1 := by kernel_rfl
  have hadd : ∀ (b j : Nat), (⟨b, 0, none⟩ : Addr).add j = ⟨b, j, none⟩ := fun b j => by rw [Addr.add_lit]; simp
  have hnews : ∀ j u, [v1][j]? = some u → w.cell? ((⟨xb, 0, none⟩ : Addr).add j) = some u := fun j u e => by
    rw [hadd]
    match j, e with
    | 0, e => cases e; exact hx1
  have hone : ∀ u ∈ [v1], u.oneCell' = true := fun u hu => by
    simp only [List.mem_cons, List.not_mem_nil, or_false] at hu
    rw [hu]; exact h2
  have hgrow : ∀ v' w', w'.ownsRow w.heap.size 36 1 v' (n + 1) (rowS f n ++ [v1]) → w.grownBy w' none → wpList Try.prog ops Q rest (a.put o.dst v') w' := by
    intro v' w' hw1 hw2
    obtain ⟨_, ⟨_, h0⟩ | ⟨g, cap, cur, rfl, hg, hb, hn, _, hs, ht⟩⟩ := hw1
    · omega
    · have hcur : ∀ j u, j < n + 1 → (rowS f n ++ [v1])[j]? = some u → cur.getD j undef = u := fun j u hj e => by
        rw [← ht, List.getElem?_take] at e
        split at e
        · have hjs : j < cur.size := by omega
          simp [hjs] at e ⊢; exact e
        · omega
      refine h _ w' (fun o => cur.getD o undef) (.inr ⟨g, cap, rfl, hn, ⟨cur, 36, hb, by omega, fun o ho => by simp [show o < cur.size by omega]⟩⟩) (fun j hj => ?_) ?_ (fun b hb' => .inl (by rw [isB_one hb']; exact hg)) ((Fr.grownI hw2).mono (fun _ _ h => h.elim))
      · refine hcur j (f j) (by omega) ?_
        rw [List.getElem?_append_left (by rw [rowS_len]; exact hj)]
        simp [rowS, hj]
      · refine hcur _ v1 (by omega) ?_
        rw [List.getElem?_append_right (by rw [rowS_len]; omega), rowS_len]
        simp
  rcases hv with ⟨rfl, rfl⟩ | ⟨b, cap, rfl, hc, hb⟩
  · exact wpList_append_grows w hgd s x 37 ho 36 ti _ 1 24 Try.underlying37 hi hz hsz hby hz9 (by omega) none 0 0 [] hs (fun _ => ⟨rfl, rfl⟩) rfl (fun _ e => by cases e) ⟨xb, 0, none⟩ 1 xc [v1] hx rfl hnews hone (by omega) (by simp [maxLen]) (by omega)
      (fun v' w' g1 g2 => hgrow v' w' g1 g2)
  · refine wpList_append_arg w hgd s x 37 ho 36 ti _ 1 24 Try.underlying37 hi hz hsz hby hz9 (by omega) b 0 n cap (rowS f n) hs (by simp [rowS_len]) (fun j u e => ?_)
      ⟨xb, 0, none⟩ 1 xc [v1] hx rfl hnews hone (fun hr j hj => ?_) (by simp only [maxLen]; omega) (by omega) (fun hr => ?_) (fun _ v' w' g1 g2 => hgrow v' w' g1 g2)
    · obtain ⟨hj, rfl⟩ := rowS_get e
      rw [Nat.zero_add, hb.cell (by omega)]
    · have hj2 : j < 1 := by simpa using hj
      rw [hb.cell (by omega)]
      exact ⟨rfl, hb.frozen _⟩
    · refine h _ _ (lay f (0 + n * 1) [v1]) (.inr ⟨b, cap, rfl, hr, hb.setCells _ _⟩) (fun j hj => lay_out _ _ _ _ (.inl (by omega))) ?_ (fun b' e => .inr (by rw [isB_one e]; exact ⟨_, _, rfl⟩)) ((Fr.refl _ _).setCells b (fun _ => ⟨_, _, rfl⟩) _ _)
      · rw [lay_in _ _ _ _ (by omega) (by simp)]; simp
end
end Go.Proofs.Qxb6500278a
