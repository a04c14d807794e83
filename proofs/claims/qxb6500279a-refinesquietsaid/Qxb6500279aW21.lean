import Derived.Test.Qxb6500279aLexC
namespace Go.Proofs.Qxb6500279a
open Go Go.RowKit

structure LawInv (w : World) (lo base x d : Nat) (mp : Value) (D : DD) (bb : Nat) (r : R) (ts : List Tok) (ml : List (Nat × Nat)) : Prop where
  lex : LRep w x bb r
  chk : CheckOK r
  desk : Blk w d 10 (dcell x mp D)
  lx : LV w D.bx ts
  lm : LV w D.bm ts
  tl : ts.length ≤ 8192
  mine : MineAt w D.mv ml
  ml16 : ml.length ≤ 16
  st : ∀ p ∈ ml, Stamped w p
  bxb : ∀ b, isBlk D.bx b → base ≤ b ∧ b ≠ bb
  bmb : ∀ b, isBlk D.bm b → base ≤ b ∧ b ≠ bb
  mvb : ∀ b, isBlk D.mv b → base ≤ b ∧ b ≠ bb ∧ ¬ isBlk D.bx b
  mlb : ∀ p ∈ ml, base ≤ p.1 ∧ p.1 ≠ bb ∧ ¬ isBlk D.mv p.1 ∧ ¬ isBlk D.bx p.1
  text : D.text.size ≤ 4097
  low : lo ≤ x ∧ lo ≤ d ∧ lo ≤ bb ∧ lo ≤ base
  lay : x < base ∧ d < base ∧ x ≠ d ∧ bb ≠ d ∧ base ≤ w.heap.size
  mpv : ∃ q, mp = .pointer q

theorem LawInv.frame {w w' : World} {lo base x d : Nat} {mp : Value} {D : DD} {bb : Nat} {r : R} {ts : List Tok} {ml : List (Nat × Nat)} (h : LawInv w lo base x d mp D bb r ts ml) (k : Fr (fun _ => False) w w') :
    LawInv w' lo base x d mp D bb r ts ml :=
  ⟨h.lex.frame k (by simp) (by simp), h.chk, h.desk.frame k (by simp), h.lx.frame k (fun _ _ h => h), h.lm.frame k (fun _ _ h => h), h.tl, h.mine.frame k (fun _ _ h => h), h.ml16, fun p hp => (h.st p hp).frame k (by simp), h.bxb, h.bmb, h.mvb, h.mlb, h.text, h.low,
   ⟨h.lay.1, h.lay.2.1, h.lay.2.2.1, h.lay.2.2.2.1, Nat.le_trans h.lay.2.2.2.2 k.size⟩, h.mpv⟩
def nowD (D : DD) (v1 v2 : Value) (err pos : Int) (mv : Value) : DD := { text := D.text, bx := v1, bm := v2, err := err, pos := pos, mv := mv }
theorem dcell_now (x : Nat) (mp : Value) (D : DD) (v1 v2 mv : Value) (err pos : Int) : ∀ o, o < 10 →
    upd (upd (upd (upd (upd (upd (dcell x mp { D with mv := mv }) 3 v1) 4 (.int .i64 err)) 5 (.int .i64 pos)) 6 v2) 7 (.int .i64 err)) 8 (.int .i64 pos) o = dcell x mp (nowD D v1 v2 err pos mv) o := by
  intro o ho
  rcases (show o = 0 ∨ o = 1 ∨ o = 2 ∨ o = 3 ∨ o = 4 ∨ o = 5 ∨ o = 6 ∨ o = 7 ∨ o = 8 ∨ o = 9 by omega) with rfl | rfl | rfl | rfl | rfl | rfl | rfl | rfl | rfl | rfl <;> simp [dcell, upd, nowD]

/-- The law's state behind the call of Lex on both sides and the looks at the answers before. -/
theorem LawInv.next {w w3 w4 w5 w6 : World} {lo base x d : Nat} {mp : Value} {D : DD} {bb : Nat} {r : R} {ts : List Tok} {ml : List (Nat × Nat)} (h : LawInv w lo base x d mp D bb r ts ml)
    {bb' : Nat} {r' : R} {v1 v2 mv' : Value} {err pos : Int} {ts' : List Tok} {ml' : List (Nat × Nat)}
    (f3 : Fr (lS x bb) w w3) (hb : bb' = bb ∨ w.heap.size ≤ bb') (hl : LRep w3 x bb' r') (hc : CheckOK r') (l1 : LV w3 v1 ts') (b1 : ∀ b, isBlk v1 b → w.heap.size ≤ b ∧ b ≠ bb') (l2 : LV w3 v2 ts') (b2 : ∀ b, isBlk v2 b → w.heap.size ≤ b ∧ b ≠ bb') (tl : ts'.length ≤ 8192)
    (f4 : Fr (isBlk D.bx) w3 w4) (s4 : LV w4 D.bx (stamps ts.length))
    (hm5 : MineAt w5 mv' ml') (h16 : ml'.length ≤ 16) (hq : ∀ q ∈ ml', q ∈ ml ∨ (D.bx = mineV q ∧ q.2 = ts.length ∧ 0 < ts.length)) (f5 : Fr (fun c => c = d ∨ isBlk D.mv c) w4 w5) (hmv : ∀ c, isBlk mv' c → isBlk D.mv c ∨ w4.heap.size ≤ c)
    (f6 : Fr (fun c => c = d) w5 w6) (hd6 : Blk w6 d 10 (dcell x mp (nowD D v1 v2 err pos mv'))) :
    LawInv w6 lo base x d mp (nowD D v1 v2 err pos mv') bb' r' ts' ml' ∧ Fr (fun b => lo ≤ b) w w6 := by
  obtain ⟨o1, o2, o3, o4⟩ := h.low
  obtain ⟨a1, a2, a3, a4, a5⟩ := h.lay
  have s3 := f3.size
  have s4' := f4.size
  have s5 := f5.size
  have s6 := f6.size
  have hxl := h.lex.lt
  have hdl := h.desk.lt
  have hb1lt : ∀ b, isBlk v1 b → b < w3.heap.size := fun b hb => l1.lt hb
  have hb2lt : ∀ b, isBlk v2 b → b < w3.heap.size := fun b hb => l2.lt hb
  have hbxlt : ∀ b, isBlk D.bx b → b < w.heap.size := fun b hb => h.lx.lt hb
  have hmvlt : ∀ b, isBlk D.mv b → b < w.heap.size := fun b hb => h.mine.lt hb
  have hbbl : bb' < w3.heap.size := hl.lt.2
  -- a block that no step touches
  have f36 : Fr (fun c => c = d ∨ isBlk D.mv c ∨ isBlk D.bx c) w3 w6 := ((f4.mono (S' := fun c => c = d ∨ isBlk D.mv c ∨ isBlk D.bx c) (fun _ _ h => .inr (.inr h))).trans f5 (fun _ _ h => h.elim .inl (fun h => .inr (.inl h)))).trans f6 (fun _ _ h => .inl h)
  have far : ∀ b, b < base ∨ w.heap.size ≤ b → b ≠ d → ¬ (b = d ∨ isBlk D.mv b ∨ isBlk D.bx b) := by
    rintro b hb hbd (e | e | e)
    · exact hbd e
    · have := (h.mvb b e).1; have := hmvlt b e; omega
    · have := (h.bxb b e).1; have := hbxlt b e; omega
  have farb : ¬ (bb' = d ∨ isBlk D.mv bb' ∨ isBlk D.bx bb') := by
    rintro (e | e | e)
    · omega
    · have := (h.mvb _ e).2.1; have := hmvlt _ e; omega
    · have := (h.bxb _ e).2; have := hbxlt _ e; omega
  have hstamp : ∀ q ∈ ml', Stamped w6 q := by
    intro q hq'
    rcases hq q hq' with h1 | ⟨h1, h2, h3⟩
    · have hs3 : Stamped w3 q := (h.st q h1).frame f3 (by have := h.mlb q h1; unfold lS; omega)
      obtain ⟨m1, m2, m3, m4⟩ := h.mlb q h1
      refine hs3.frame f36 ?_
      rintro (e | e | e)
      · omega
      · exact m3 e
      · exact m4 e
    · have hb' : isBlk D.bx q.1 := ⟨_, _, h1⟩
      have hs4 : Stamped w4 q := by
        rcases s4 with ⟨e', _⟩ | ⟨b, e', ht, hp⟩
        · rw [h1] at e'; cases e'
        · rw [h1, mineV] at e'
          simp only [Value.slice.injEq, Option.some.injEq, Addr.mk.injEq, and_true] at e'
          obtain ⟨eb, en, _⟩ := e'
          refine ⟨?_, by omega, by have := h.tl; omega⟩
          rw [h2, eb]; exact ht
      have hb1 := h.bxb q.1 hb'
      refine hs4.frame (f5.trans f6 (fun _ _ h => .inl h)) ?_
      rintro (e | e)
      · omega
      · exact (h.mvb _ e).2.2 hb'
  have hqlt : ∀ q ∈ ml', q.1 < w.heap.size ∧ base ≤ q.1 ∧ q.1 ≠ bb ∧ ¬ isBlk D.mv q.1 := by
    intro q hq'
    rcases hq q hq' with h1 | ⟨h1, h2, h3⟩
    · exact ⟨Blk.lt (h.st q h1).1, (h.mlb q h1).1, (h.mlb q h1).2.1, (h.mlb q h1).2.2.1⟩
    · have hb' : isBlk D.bx q.1 := ⟨_, _, h1⟩
      exact ⟨hbxlt _ hb', (h.bxb _ hb').1, (h.bxb _ hb').2, fun e => (h.mvb _ e).2.2 hb'⟩
  refine ⟨⟨hl.frame f36 (far x (by omega) a3) farb, hc, hd6, l1.frame f36 (fun b hb => far b (by have := b1 b hb; omega) (by have := b1 b hb; omega)), l2.frame f36 (fun b hb => far b (by have := b2 b hb; omega) (by have := b2 b hb; omega)), tl,
    hm5.frame f6 (fun b hb e => ?_), h16, hstamp, fun b hb => ⟨by have := b1 b hb; omega, (b1 b hb).2⟩, fun b hb => ⟨by have := b2 b hb; omega, (b2 b hb).2⟩, fun b hb => ?_, fun q hq' => ?_, h.text, ⟨o1, o2, by omega, o4⟩, ⟨a1, a2, a3, by omega, by omega⟩, h.mpv⟩, ?_⟩
  · rcases hmv b hb with h1 | h1
    · have := (h.mvb b h1).1; omega
    · omega
  · rcases hmv b hb with h1 | h1
    · refine ⟨(h.mvb b h1).1, ?_, fun e => ?_⟩
      · have := (h.mvb b h1).2.1; have := hmvlt b h1; omega
      · have := (b1 b e).1; have := hmvlt b h1; omega
    · refine ⟨by omega, by omega, fun e => ?_⟩
      have := hb1lt b e; omega
  · obtain ⟨q1, q2, q3, q4⟩ := hqlt q hq'
    refine ⟨q2, by omega, fun e => ?_, fun e => ?_⟩
    · rcases hmv _ e with h1 | h1
      · exact q4 h1
      · omega
    · have := (b1 _ e).1; omega
  · refine (f3.mono (S' := fun b => lo ≤ b) (fun b _ e => by unfold lS at e; omega)).trans f36 (fun b hb e => ?_)
    rcases e with e | e | e
    · omega
    · have := (h.mvb b e).1; omega
    · have := (h.bxb b e).1; omega
end Go.Proofs.Qxb6500279a
