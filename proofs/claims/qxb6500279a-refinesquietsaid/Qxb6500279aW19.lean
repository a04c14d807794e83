import Derived.Test.Qxb6500279aW18
namespace Go.Proofs.Qxb6500279a
open Go Go.RowKit

def mineV (p : Nat × Nat) : Value := .slice (some ⟨p.1, 0, none⟩) p.2 p.2
/-- The lists kept under the stamp: (block, length) each. -/
def MineAt (w : World) (v : Value) (ml : List (Nat × Nat)) : Prop :=
  (v = .slice none 0 0 ∧ ml = []) ∨ ∃ mb cap f, v = .slice (some ⟨mb, 0, none⟩) ml.length cap ∧ ml.length ≤ cap ∧ Blk w mb cap f ∧ ∀ j, j < ml.length → f j = mineV (ml.getD j (0, 0))
theorem MineAt.frame {S : Nat → Prop} {w w' : World} {v : Value} {ml : List (Nat × Nat)} (h : MineAt w v ml) (k : Fr S w w') (hb : ∀ b, isBlk v b → ¬ S b) : MineAt w' v ml := by
  rcases h with h | ⟨b, cap, f, rfl, hc, hb', hf⟩
  · exact .inl h
  · exact .inr ⟨b, cap, f, rfl, hc, hb'.frame k (hb _ ⟨_, _, rfl⟩), hf⟩
theorem MineAt.lt {w : World} {v : Value} {ml : List (Nat × Nat)} (h : MineAt w v ml) {b : Nat} (hb : isBlk v b) : b < w.heap.size := by
  obtain ⟨n, c, e⟩ := hb
  rcases h with ⟨rfl, _⟩ | ⟨b, cap, f, rfl, hc, hb', hf⟩
  · cases e
  · cases e; exact hb'.lt
def Stamped (w : World) (p : Nat × Nat) : Prop := TokAt w p.1 (stamps p.2) ∧ 0 < p.2 ∧ p.2 ≤ 8192
theorem Stamped.lv {w : World} {p : Nat × Nat} (h : Stamped w p) : LV w (mineV p) (stamps p.2) := .inr ⟨p.1, by simp [mineV, stamps], h.1, by simpa [stamps] using h.2.1⟩
theorem Stamped.frame {S : Nat → Prop} {w w' : World} {p : Nat × Nat} (h : Stamped w p) (k : Fr S w w') (hb : ¬ S p.1) : Stamped w' p := ⟨h.1.frame k hb, h.2⟩

/-- The desk: the text, the answers of the call before, the lists kept. -/
structure DD where
  text : ByteArray
  bx : Value
  bm : Value
  err : Int
  pos : Int
  mv : Value
def dcell (x : Nat) (mp : Value) (D : DD) (o : Nat) : Value :=
  match o with
  | 0 => .pointer (some ⟨x, 0, none⟩)
  | 1 => mp
  | 2 => .string D.text
  | 3 => D.bx
  | 4 => .int .i64 D.err
  | 5 => .int .i64 D.pos
  | 6 => D.bm
  | 7 => .int .i64 D.err
  | 8 => .int .i64 D.pos
  | _ => D.mv
theorem dcell_mv (x : Nat) (mp : Value) (D : DD) (v : Value) : ∀ o, o < 10 → upd (dcell x mp D) 9 v o = dcell x mp { D with mv := v } o := by
  intro o ho
  rcases (show o = 0 ∨ o = 1 ∨ o = 2 ∨ o = 3 ∨ o = 4 ∨ o = 5 ∨ o = 6 ∨ o = 7 ∨ o = 8 ∨ o = 9 by omega) with rfl | rfl | rfl | rfl | rfl | rfl | rfl | rfl | rfl | rfl <;> simp [dcell, upd]

set_option maxRecDepth 100000 in
set_option maxHeartbeats 4000000 in
theorem untouched_any {w : World} {x d : Nat} {mp : Value} {D : DD} {ml : List (Nat × Nat)} (hd : Blk w d 10 (dcell x mp D)) (hm : MineAt w D.mv ml) (hs : ∀ p ∈ ml, Stamped w p) (hl : ml.length ≤ 16) :
    Calls Try.prog 31 #[.pointer (some ⟨d, 0, none⟩)] w fun e w' => e = .returned (.bool true) ∧ Fr (fun _ => False) w w' := by
  have c9 : w.cell? ⟨d, 9, none⟩ = some D.mv := hd.cell (by omega)
  rcases hm with ⟨e, rfl⟩ | ⟨mb, cap, f, e, hc, hb, hf⟩
  · rw [e] at c9
    go_enter Try.func31, Try.ntmps31
    go_wp2_with fail
    refine wp_loop_rounds 1 ?_
    rw [rounds_succ]
    go_wp2_with fail
    go_ret
    exact ⟨rfl, Fr.refl _ _⟩
  · rw [e] at c9
    clear e
    go_enter Try.func31, Try.ntmps31
    go_wp2_with fail
    go_loopg [3] ml.length (fun g iv wr => ∃ i : Nat, iv = .int .i64 i ∧ i + g = ml.length ∧ Fr (fun _ => False) w wr)
    case atStart => exact ⟨0, rfl, by omega, Fr.refl _ _⟩
    case round =>
      obtain ⟨i, rfl, hg, hfr⟩ := hrel
      have hg' : i + gk = ml.length := hg
      clear hg
      have d9 : wr.cell? ⟨d, 9, none⟩ = some (.slice (some ⟨mb, 0, none⟩) ml.length cap) := by
        rw [hfr.cell (p := ⟨d, 9, none⟩) hd.lt (by simp)]; exact c9
      by_cases hlt : i < ml.length
      · have hst := hs _ (List.getElem_mem hlt)
        have eg : ml.getD i (0, 0) = ml[i] := by simp [hlt]
        have m0 : wr.cell? ⟨mb, i, none⟩ = some (mineV ml[i]) := by rw [(hb.frame hfr (by simp)).cell (by omega), hf i hlt, eg]
        unfold mineV at m0
        have hst1 := hst.frame hfr (by simp)
        clear eg hst
        go_wp2_with fail
        refine (spoilt_any hst1.lv hst1.2.2).mono ?_
        rintro e w3 ⟨rfl, f3⟩
        go_wp2_with fail
        go_roundg (gk - 1)
        case measure => omega
        case rel => exact ⟨i + 1, by simp, by omega, hfr.trans f3 (fun _ _ h => h)⟩
      · go_wp2_with fail
        go_ret
        exact ⟨rfl, hfr⟩

theorem mineRow_get (p : List (Nat × Nat)) (j : Nat) (u : Value) (e : (p.map mineV)[j]? = some u) : j < p.length ∧ mineV (p.getD j (0, 0)) = u := by
  obtain ⟨h1, h2⟩ := List.getElem?_eq_some_iff.1 e
  have h3 : j < p.length := by simpa using h1
  refine ⟨h3, ?_⟩
  rw [← h2]
  simp [h3]
theorem mineRow_one (p : List (Nat × Nat)) : ∀ u ∈ p.map mineV, u.oneCell' = true := by
  intro u hu
  simp only [List.mem_map] at hu
  obtain ⟨q, _, rfl⟩ := hu
  rfl
theorem MineAt.own {w' : World} {v' : Value} {base : Nat} {p : List (Nat × Nat)} (hp : 0 < p.length) (h : w'.ownsRow base 29 1 v' p.length (p.map mineV)) :
    MineAt w' v' p ∧ ∀ b, isBlk v' b → base ≤ b := by
  obtain ⟨_, ⟨_, h0⟩ | ⟨g, cap, cur, rfl, hg, hb, hn, _, hs, ht⟩⟩ := h
  · omega
  · refine ⟨.inr ⟨g, cap, fun o => cur.getD o undef, rfl, hn, ⟨cur, 29, hb, by omega, fun o ho => ?_⟩, fun j hj => ?_⟩, ?_⟩
    · simp [show o < cur.size by omega]
    · have e : (cur.toList.take (p.length * 1))[j]? = some (mineV (p.getD j (0, 0))) := by
        rw [ht]; simp [hj]
      rw [List.getElem?_take] at e
      have hj2 : j < cur.size := by omega
      split at e
      · simp [hj2] at e ⊢; exact e
      · cases e
    · rintro b ⟨n, c, e⟩
      cases e; exact hg
section
variable {ops : Array Oper} {Q : Exit → Act → World → Prop} {a : Act} {w : World} {rest : List Oper} {o : Oper}
theorem wpList_appendMine (hgd : o.guard = none) (s x : Operand) (ho : o.op = .call { callee := .builtin .append, args := #[s, x], argTypes := #[46, 46] })
    (v : Value) (p : List (Nat × Nat)) (i : Nat × Nat) (xb xc : Nat) (hs : a.eval s = v) (hx : a.eval x = .slice (some ⟨xb, 0, none⟩) 1 xc) (hv : MineAt w v p) (hxb : w.cell? ⟨xb, 0, none⟩ = some (mineV i)) (hlen : p.length ≤ 4200)
    (h : ∀ v' w', MineAt w' v' (p ++ [i]) → (∀ b, isBlk v' b → w.heap.size ≤ b ∨ isBlk v b) →
      Fr (isBlk v) w w' → wpList Try.prog ops Q rest (a.put o.dst v') w') : wpList Try.prog ops Q (o :: rest) a w := by
  obtain ⟨ti, hi, hz, hsz, hby⟩ : ∃ ti, Try.prog.info? 29 = some ti ∧ ti.zero = some (.slice none 0 0) ∧ ti.size = 1 ∧ ti.bytes = 24 := by
    have e1 : (Try.prog.info? 29).map (·.size) = some 1 := by kernel_rfl
    have e2 : (Try.prog.info? 29).map (·.bytes) = some 24 := by kernel_rfl
    have e3 : (Try.prog.info? 29).bind (·.zero) = some (.slice none 0 0) := by kernel_rfl
    cases hq : Try.prog.info? 29 with
    | none => rw [hq] at e1; cases e1
    | some ti =>
      rw [hq] at e1 e2 e3
      exact ⟨ti, rfl, by simpa using e3, by simpa using e1, by simpa using e2⟩
  have hz7 : (Value.slice none 0 0).cells.size = 1 := by kernel_rfl
  have hadd : ∀ (b j : Nat), (⟨b, 0, none⟩ : Addr).add j = ⟨b, j, none⟩ := fun b j => by rw [Addr.add_lit]; simp
  have hnews : ∀ j u, (([i] : List (Nat × Nat)).map mineV)[j]? = some u → w.cell? ((⟨xb, 0, none⟩ : Addr).add j) = some u := fun j u e => by
    rw [hadd]
    obtain ⟨h1, h2⟩ := mineRow_get _ _ _ e
    have : j = 0 := by simp at h1; omega
    subst this
    rw [hxb, ← h2]; rfl
  have hl1 : (p ++ [i]).length = p.length + 1 := by simp
  have hpos : 0 < (p ++ [i]).length := by simp
  have hgrow : ∀ v' w', w'.ownsRow w.heap.size 29 1 v' (p.length + 1) (p.map mineV ++ [i].map mineV) → w.grownBy w' none → wpList Try.prog ops Q rest (a.put o.dst v') w' := by
    intro v' w' h1 h2
    rw [← List.map_append, ← hl1] at h1
    obtain ⟨c1, c2⟩ := MineAt.own hpos h1
    exact h v' w' c1 (fun b e => .inl (c2 b e)) ((Fr.grown h2).mono (fun _ _ h => h.elim))
  rcases hv with ⟨rfl, rfl⟩ | ⟨b, cap, f, rfl, hc, hb, hf⟩
  · exact wpList_append_grows w hgd s x 46 ho 29 ti _ 1 24 Try.underlying46 hi hz hsz hby hz7 (by omega) none 0 0 [] hs (fun _ => ⟨rfl, rfl⟩) rfl (fun _ e => by cases e) ⟨xb, 0, none⟩ 1 xc ([i].map mineV) hx rfl hnews (mineRow_one _) (by omega) (by simp [maxLen]) (by omega)
      (fun v' w' h1 h2 => hgrow v' w' h1 h2)
  · refine wpList_append_arg w hgd s x 46 ho 29 ti _ 1 24 Try.underlying46 hi hz hsz hby hz7 (by omega) b 0 p.length cap (p.map mineV) hs (by simp) (fun j u e => by
        rw [Nat.zero_add]
        obtain ⟨h1, h2⟩ := mineRow_get _ _ _ e
        rw [hb.cell (by omega), hf j h1, h2])
      ⟨xb, 0, none⟩ 1 xc ([i].map mineV) hx rfl hnews (mineRow_one _) (fun hr j hj => ?_) (by simp only [maxLen]; omega) (by omega) (fun hr => ?_) (fun _ v' w' h1 h2 => hgrow v' w' h1 h2)
    · have hj7 : j < 1 := hj
      rw [hb.cell (by omega)]
      exact ⟨rfl, hb.frozen _⟩
    · refine h _ _ ?_ (fun b' e => .inr ?_) ((Fr.refl _ _).setCells b (fun _ => ⟨_, _, rfl⟩) _ _)
      · refine .inr ⟨b, cap, _, by rw [hl1], by rw [hl1]; omega, hb.setCells _ _, ?_⟩
        intro j hj
        rw [hl1] at hj
        by_cases hlt : j < p.length
        · rw [lay_out _ _ _ _ (.inl (by omega)), hf j hlt]
          simp [hlt, List.getElem?_append_left hlt]
        · have e : j = p.length := by omega
          subst e
          rw [lay_in _ _ _ _ (by omega) (by simp)]
          simp
      · obtain ⟨n, c, e⟩ := e
        cases e; exact ⟨_, _, rfl⟩
end
end Go.Proofs.Qxb6500279a
