import Derived.Test.Qxb6500284aWLaw8
namespace Go.Proofs.Qxb6500284a
open Go Go.RowKit

structure LawInv (w : World) (base x m d : Nat) (s : PS) (D : DD) (p : List In) (N : Nat) : Prop where
  rep : PRep w x s
  ci : CInv s
  st : s.f 265 ≤ D.lid
  mb : ∃ c, MB w m c ∧ c ≤ N
  db : Blk w d 9 (dcell D)
  code : CodeAt w D.cv p
  len : p.length ≤ 65
  cb : ∀ b n c, D.cv = .slice (some ⟨b, 0, none⟩) n c → base ≤ b
  old : ∀ k, k < 4 → OldAt w (D.o k)
  ob : ∀ k, k < 4 → ∀ b n c, D.o k = .slice (some ⟨b, 0, none⟩) n c → base ≤ b ∧ b < w.heap.size ∧ ∀ n' c', D.cv ≠ .slice (some ⟨b, 0, none⟩) n' c'
  bf : ∃ f, Blk w D.bb 455 f
  sub : D.sub.size ≤ 257
  n : ∃ M : Nat, D.n = M ∧ M ≤ N
  lay : x + 7 ≤ m ∧ m < d ∧ d < D.bb ∧ D.bb < base
  bs : base ≤ w.heap.size

theorem CodeAt.lt {w : World} {v : Value} {p : List In} (h : CodeAt w v p) {b n c : Nat} (e : v = .slice (some ⟨b, 0, none⟩) n c) : b < w.heap.size := by
  rcases h with ⟨rfl, _⟩ | ⟨b', cap, f, rfl, hc, hb, hf⟩
  · cases e
  · cases e; exact hb.lt
theorem OldAt.frame {S : Nat → Prop} {w w' : World} {v : Value} (h : OldAt w v) (k : Fr S w w') (hb : ∀ b n c, v = .slice (some ⟨b, 0, none⟩) n c → ¬ S b) : OldAt w' v := by
  obtain ⟨n, h1, h2⟩ := h
  exact ⟨n, h1, h2.frame k hb⟩
theorem lid_ok (p : List In) (str : ByteArray) (n : Nat) (h1 : p.length ≤ 65) (h2 : str.size ≤ 256) (h3 : n ≤ str.size) : 0 ≤ 4 * (p.length : Int) * ((str.size : Int) - n + 2) ∧ 4 * (p.length : Int) * ((str.size : Int) - n + 2) ≤ 70000 := by
  have e : 4 * (p.length : Int) * ((str.size : Int) - n + 2) = ((4 * p.length * (str.size - n + 2) : Nat) : Int) := by
    rw [Int.natCast_mul, Int.natCast_mul]; congr 1; omega
  have : 4 * p.length * (str.size - n + 2) ≤ 260 * 258 := Nat.mul_le_mul (by omega) (by omega)
  omega



def withLid (D : DD) (L : Int) : DD := { D with lid := L }
theorem dcell_lid (D : DD) (L : Int) : ∀ o, o < 9 → upd (dcell D) 2 (.int .i64 L) o = dcell (withLid D L) o := by
  intro o ho
  rcases (show o = 0 ∨ o = 1 ∨ o = 2 ∨ o = 3 ∨ o = 4 ∨ o = 5 ∨ o = 6 ∨ o = 7 ∨ o = 8 by omega) with rfl | rfl | rfl | rfl | rfl | rfl | rfl | rfl | rfl <;> simp [dcell, upd, withLid]
theorem dcell_lid2 (D : DD) (L L' : Int) : ∀ o, o < 9 → upd (upd (dcell D) 2 (.int .i64 L')) 2 (.int .i64 L) o = dcell (withLid D L) o := by
  intro o ho
  rw [← dcell_lid D L o ho]
  simp only [upd]
  split <;> rfl
def lawS (x m d bb : Nat) (b : Nat) : Prop := pOwn x b ∨ b = m ∨ b = d ∨ b = bb

theorem LawInv.fresh {w w5 w6 : World} {base x m d : Nat} {s s' : PS} {D : DD} {p : List In} {N M c : Nat} {L : Int} (hL : LawInv w base x m d s D p N)
    (f5 : Fr (lawS x m d D.bb) w w5) (hrep : PRep w5 x s') (hci : CInv s') (hst : s'.f 265 ≤ L) (hM : MB w5 m (c + 1)) (hc : c ≤ N) (hMN : M ≤ N) (cap : Nat)
    (f6 : Fr (fun b => b = w.heap.size ∨ b = d) w5 w6) (hd6 : Blk w6 d 9 (dcell (keepD (withLid D L) true (.slice (some ⟨w.heap.size, 0, none⟩) p.length cap) M)))
    {mm : Nat} {f' : Nat → Value} (hb : Blk w6 w.heap.size mm f') (hmm : p.length * 7 ≤ mm) (hbf : ∃ f, Blk w5 D.bb 455 f) (hf : Holds7 f' (List.replicate p.length stampIn)) :
    (∃ s' D', LawInv w6 base x m d s' D' p (N + 1)) ∧ Fr (fun b => x ≤ b) w w6 := by
  obtain ⟨l1, l2, l3, l4⟩ := hL.lay
  have hbs := hL.bs
  have hs5 := f5.size
  have hs6 := f6.size
  have fall : Fr (lawS x m d D.bb) w w6 := f5.trans f6 (fun b hb e => by unfold lawS; omega)
  refine ⟨⟨s', keepD (withLid D L) true (.slice (some ⟨w.heap.size, 0, none⟩) p.length cap) M, ?_⟩, fall.mono (fun b _ e => by unfold lawS pOwn at e; omega)⟩
  have far : ∀ b, base ≤ b → ¬ lawS x m d D.bb b := fun b hb e => by unfold lawS pOwn at e; omega
  refine ⟨hrep.frame f6 (fun b hb e => by unfold pOwn at hb; omega), hci, hst, ⟨c + 1, hM.frame f6 (by omega), by omega⟩, hd6, ?_, hL.len, ?_, ?_, ?_, ?_, hL.sub, ⟨M + 1, by simp [keepD], by omega⟩, ⟨l1, l2, l3, l4⟩, by omega⟩
  · exact hL.code.frame fall (fun b n c e => far b (hL.cb b n c e))
  · exact hL.cb
  · intro k hk
    simp only [keepD, if_true, upd]
    split
    · exact ⟨p.length, hL.len, _, cap, by rw [List.length_replicate], .inr ⟨_, rfl, hf.at hb (by rw [List.length_replicate]; exact hmm)⟩⟩
    · exact (hL.old k hk).frame fall (fun b n c e => far b (hL.ob k hk b n c e).1)
  · intro k hk b n c
    simp only [keepD, if_true, upd]
    split
    · intro e
      simp only [Value.slice.injEq, Option.some.injEq, Addr.mk.injEq] at e
      obtain ⟨⟨rfl, _⟩, _⟩ := e
      exact ⟨hbs, hb.lt, fun n' c' e' => by have := hL.code.lt e'; omega⟩
    · exact fun e => ⟨(hL.ob k hk b n c e).1, Nat.lt_of_lt_of_le (hL.ob k hk b n c e).2.1 fall.size, (hL.ob k hk b n c e).2.2⟩
  · obtain ⟨fb, hfb⟩ := hbf
    exact ⟨fb, hfb.frame f6 (by omega)⟩

theorem LawInv.buf {w w5 w6 : World} {base x m d : Nat} {s s' : PS} {D : DD} {p : List In} {N c : Nat} {L : Int} (hL : LawInv w base x m d s D p N)
    (f5 : Fr (lawS x m d D.bb) w w5) (hrep : PRep w5 x s') (hci : CInv s') (hst : s'.f 265 ≤ L) (hM : MB w5 m (c + 1)) (hc : c ≤ N)
    (f6 : Fr (fun b => b = D.bb ∨ b = d) w5 w6) (hd6 : Blk w6 d 9 (dcell (withLid D L)))
    {f' : Nat → Value} (hb : Blk w6 D.bb 455 f') :
    (∃ s' D', LawInv w6 base x m d s' D' p (N + 1)) ∧ Fr (fun b => x ≤ b) w w6 := by
  obtain ⟨l1, l2, l3, l4⟩ := hL.lay
  have hbs := hL.bs
  have hs5 := f5.size
  have hs6 := f6.size
  have fall : Fr (lawS x m d D.bb) w w6 := f5.trans f6 (fun b hb e => by unfold lawS; omega)
  obtain ⟨M, hM1, hM2⟩ := hL.n
  refine ⟨⟨s', withLid D L, ?_⟩, fall.mono (fun b _ e => by unfold lawS pOwn at e; omega)⟩
  have far : ∀ b, base ≤ b → ¬ lawS x m d D.bb b := fun b hb e => by unfold lawS pOwn at e; omega
  exact ⟨hrep.frame f6 (fun b hb e => by unfold pOwn at hb; omega), hci, hst, ⟨c + 1, hM.frame f6 (by omega), by omega⟩, hd6, hL.code.frame fall (fun b n c e => far b (hL.cb b n c e)), hL.len, hL.cb,
    fun k hk => (hL.old k hk).frame fall (fun b n c e => far b (hL.ob k hk b n c e).1), fun k hk b n c e => ⟨(hL.ob k hk b n c e).1, Nat.lt_of_lt_of_le (hL.ob k hk b n c e).2.1 fall.size, (hL.ob k hk b n c e).2.2⟩, ⟨f', hb⟩, hL.sub, ⟨M, hM1, by omega⟩, ⟨l1, l2, l3, l4⟩, by omega⟩

set_option maxRecDepth 100000 in
set_option maxHeartbeats 4000000 in
theorem sameSearch_fresh (hP : Plain) {w : World} {base x m d : Nat} {s : PS} {D : DD} {p : List In} {N : Nat} (hL : LawInv w base x m d s D p N) (hN : N < 4999999999999) (from_ : Int) :
    Calls Try.prog 16 #[.pointer (some ⟨x, 0, none⟩), .pointer (some ⟨m, 0, none⟩), .pointer (some ⟨d, 0, none⟩), .int .i64 from_, .bool false] w fun e w' =>
      e = .returned (.bool true) ∧ (∃ s' D', LawInv w' base x m d s' D' p (N + 1)) ∧ Fr (fun b => x ≤ b) w w' := by
  obtain ⟨l1, l2, l3, l4⟩ := hL.lay
  have hbs := hL.bs
  have hlen := hL.len
  obtain ⟨ca, ccap, hcv, hsl⟩ := hL.code.sl
  have c0 : w.cell? ⟨d, 0, none⟩ = some (.slice ca p.length ccap) := by rw [hL.db.cell (by omega)]; simp [dcell, hcv]
  obtain ⟨E, hE⟩ : ∃ E, E = ansErr p D.sub from_ := ⟨_, rfl⟩
  obtain ⟨O, hO⟩ : ∃ O, O = ansOk p D.sub from_ := ⟨_, rfl⟩
  obtain ⟨C, hC⟩ : ∃ C, C = ansC p D.sub from_ := ⟨_, rfl⟩
  have HE : Hid _ := hE
  have HO : Hid _ := hO
  have HC : Hid _ := hC
  have Hcv : Hid _ := hcv
  clear hE hO hC hcv
  go_enter Try.func16, Try.ntmps16
  go_wp2_with fail
  refine (copyProg_any (v := .slice ca p.length ccap) (by rw [← Hcv.out]; exact hL.code) hL.len).mono ?_
  rintro e wa ⟨rfl, fa0, za, fx, hxb, hxf⟩
  have fa : Fr (fun b => b = D.bb) w wa := fa0.mono (fun _ _ h => h.elim)
  have hda := hL.db.frame fa (fun (h : d = D.bb) => by omega)
  have c0 : wa.cell? ⟨d, 0, none⟩ = some (.slice ca p.length ccap) := by rw [hda.cell (by omega)]; simp [dcell, Hcv.out]
  go_wp2_with fail
  -- copy for the model
  refine (copyProg_any (v := .slice ca p.length ccap) (by rw [← Hcv.out]; exact hL.code.frame fa (fun b n c e h => by have := hL.cb b n c e; omega)) hL.len).mono ?_
  rintro e w2 ⟨rfl, f2, z2, fm, hmb, hmf⟩
  have hx2 := hxb.frame f2 (by simp)
  have fw2 : Fr (fun b => b = D.bb) w w2 := fa.trans f2 (fun _ _ h => h.elim)
  have hrep2 := hL.rep.frame fw2 (fun b hb e => by unfold pOwn at hb; omega)
  have hd2 := hL.db.frame fw2 (fun (h : d = D.bb) => by omega)
  have d1 : w2.cell? ⟨d, 1, none⟩ = some (.string D.sub) := hd2.cell (by omega)
  have hsz2 := fw2.size
  go_wp2_with fail
  refine (search_all hP hrep2 hL.ci p (w.heap.size) _ (hxf.at hx2 (by omega)) (by unfold pOwn; omega) (by omega) D.sub from_).mono ?_
  rintro e w3 ⟨rfl, ⟨s', hrep3, hci3, hst3⟩, f3⟩
  have hd3 := hd2.frame f3 (by unfold pOwn; omega)
  rw [← HE.out, ← HO.out, ← HC.out]
  unfold foundV
  have d1 : w3.cell? ⟨d, 1, none⟩ = some (.string D.sub) := hd3.cell (by omega)
  obtain ⟨c, hmb0, hcN⟩ := hL.mb
  have hM3 := (hmb0.frame fw2 (fun (h : m = D.bb) => by omega)).frame f3 (by unfold pOwn; omega)
  have hm3 := hmb.frame f3 (by unfold pOwn; omega)
  have hsz3 := f3.size
  have hdl3 := hd3.lt
  go_wp2_with fail
  have fal3 := (Fr.refl (fun _ => False) w3).alloc (.cells #[.int .i64 E, .int .i64 0, .bool O, .int .i64 (C 0), .int .i64 (C 1), .int .i64 (C 2), .int .i64 (C 3), .int .i64 (C 4), .int .i64 (C 5), .int .i64 (C 6), .int .i64 (C 7)] 55)
  refine (msearch_any (hM3.frame fal3 (by simp)) (by omega) p wa.heap.size _ ((hmf.at hm3 (by omega)).frame fal3 (by simp)) (by omega) (by omega) D.sub from_).mono ?_
  rintro e w4 ⟨rfl, hM4, f4⟩
  rw [← HE.out, ← HO.out, ← HC.out]
  unfold foundV
  have q1 := f4.newCell (fun (h : w3.heap.size = m) => by omega)
  have fw34 : Fr (fun b => b = m) w3 w4 := (fal3.mono (S' := fun b => b = m) (fun _ _ h => h.elim)).trans f4 (fun _ _ h => h)
  have hd4 := hd3.frame fw34 (fun (h : d = m) => by omega)
  have hsz4 := fw34.size
  have hlt34 : w3.heap.size < w4.heap.size := by have := f4.size; simp at this; omega
  have d0 : w4.cell? ⟨d, 0, none⟩ = some (.slice ca p.length ccap) := by rw [hd4.cell (by omega)]; simp [dcell, Hcv.out]
  have d1 : w4.cell? ⟨d, 1, none⟩ = some (.string D.sub) := hd4.cell (by omega)
  have d2 : w4.cell? ⟨d, 2, none⟩ = some (.int .i64 D.lid) := hd4.cell (by omega)
  have dz := hd4.frozen
  have hdl := hd4.lt
  by_cases hE0 : E = 0
  · subst hE0
    obtain ⟨n, rfl, hn1, hn2⟩ : ∃ n : Nat, from_ = n ∧ n ≤ D.sub.size ∧ D.sub.size ≤ 256 := by
      have := HE.out
      rcases ans_cases p D.sub from_ with ⟨h1, e1, e2, e3⟩ | ⟨h1, h2, e1, e2, e3⟩ | ⟨h1, h2, h3, e1, e2, e3⟩ | ⟨h1, h2, n, e0, h4, e1, e2, e3⟩
      · omega
      · omega
      · omega
      · exact ⟨n, e0, h4, h1⟩
    obtain ⟨b1, b2⟩ := lid_ok p D.sub n hlen hn2 hn1
    go_wp2_with fail
    refine wp_region_text (by kernel_rfl) (by kernel_rfl) ?_
    go_wp2_with fail
    refine ⟨by kernel_rfl, ?_⟩
    go_wp2_with fail
    refine (sameFound_any 0 0 O C _).mono ?_
    rintro e w5 ⟨rfl, f5⟩
    have hd5 := ((((((hd4.set 2 _).set 2 _).congr (dcell_lid2 D (4 * (p.length : Int) * ((D.sub.size : Int) - n + 2)) 0)).alloc _).drew)).frame f5 (by simp)
    have k5 : Fr (fun b => b = d) w4 w5 := (((((Fr.refl (fun b => b = d) w4).setC d 2 _ (fun _ => rfl)).setC d 2 _ (fun _ => rfl)).alloc _).drew).trans f5 (fun _ _ h => h.elim)
    have k35 : Fr (fun b => b = m ∨ b = d) w3 w5 := (fw34.mono (S' := fun b => b = m ∨ b = d) (fun _ _ h => .inl h)).trans k5 (fun _ _ h => .inr h)
    have k25 : Fr (fun b => pOwn x b ∨ b = m ∨ b = d) w2 w5 := (f3.mono (S' := fun b => pOwn x b ∨ b = m ∨ b = d) (fun _ _ h => .inl h)).trans k35 (fun _ _ h => .inr h)
    have k05 : Fr (lawS x m d D.bb) w w5 := (fw2.mono (S' := lawS x m d D.bb) (fun _ _ h => .inr (.inr (.inr h)))).trans k25 (fun b _ h => h.elim .inl (fun h => h.elim (fun h => .inr (.inl h)) (fun h => .inr (.inr (.inl h)))))
    have far : ∀ b, base ≤ b → ¬ lawS x m d D.bb b := fun b hb e => by unfold lawS pOwn at e; omega
    have hM5 := hM4.frame k5 (fun (h : m = d) => by omega)
    have hrep5 := hrep3.frame k35 (fun b hb e => by unfold pOwn at hb; omega)
    have hx5 := hx2.frame k25 (by unfold pOwn; omega)
    obtain ⟨M, hM1, hM2⟩ := hL.n
    have hl : lidOf p D.sub n = 4 * (p.length : Int) * ((D.sub.size : Int) - n + 2) := by simp [lidOf, ← HE.out]
    go_wp2_with fail
    refine (scribble_any (D := withLid D (4 * (p.length : Int) * ((D.sub.size : Int) - n + 2))) (N := M) (p := p) true hd5 (fun k hk => (hL.old k hk).frame k05 (fun b n c e => far b (hL.ob k hk b n c e).1)) hM1 (by omega)
      (hL.code.frame k05 (fun b n c e => far b (hL.cb b n c e))).sl hL.len hx5 hxf (by omega) (by omega)).mono ?_
    rintro e w6 ⟨rfl, f6, hd6, f', hb6, hf6⟩
    go_wp2_with fail
    go_ret
    refine ⟨rfl, ?_⟩
    exact hL.fresh k05 hrep5 hci3 (by rw [← hl]; exact hst3) hM5 hcN hM2 p.length f6 hd6 hb6 (by omega) ((hL.bf.imp fun f hf => ((hf.frame fa0 (by simp)).frame f2 (by simp)).frame k25 (by unfold pOwn; omega))) hf6
  · go_wp2_with fail
    refine (sameFound_any E 0 O C _).mono ?_
    rintro e w5 ⟨rfl, f5⟩
    have hd5 := (((hd4.set 2 _).congr (dcell_lid D 0)).alloc _).frame f5 (by simp)
    have k5 : Fr (fun b => b = d) w4 w5 := (((Fr.refl (fun b => b = d) w4).setC d 2 _ (fun _ => rfl)).alloc _).trans f5 (fun _ _ h => h.elim)
    have k35 : Fr (fun b => b = m ∨ b = d) w3 w5 := (fw34.mono (S' := fun b => b = m ∨ b = d) (fun _ _ h => .inl h)).trans k5 (fun _ _ h => .inr h)
    have k25 : Fr (fun b => pOwn x b ∨ b = m ∨ b = d) w2 w5 := (f3.mono (S' := fun b => pOwn x b ∨ b = m ∨ b = d) (fun _ _ h => .inl h)).trans k35 (fun _ _ h => .inr h)
    have k05 : Fr (lawS x m d D.bb) w w5 := (fw2.mono (S' := lawS x m d D.bb) (fun _ _ h => .inr (.inr (.inr h)))).trans k25 (fun b _ h => h.elim .inl (fun h => h.elim (fun h => .inr (.inl h)) (fun h => .inr (.inr (.inl h)))))
    have far : ∀ b, base ≤ b → ¬ lawS x m d D.bb b := fun b hb e => by unfold lawS pOwn at e; omega
    have hM5 := hM4.frame k5 (fun (h : m = d) => by omega)
    have hrep5 := hrep3.frame k35 (fun b hb e => by unfold pOwn at hb; omega)
    have hx5 := hx2.frame k25 (by unfold pOwn; omega)
    obtain ⟨M, hM1, hM2⟩ := hL.n
    have hl : lidOf p D.sub from_ = 0 := by simp [lidOf, ← HE.out, hE0]
    go_wp2_with fail
    refine (scribble_any (D := withLid D (0)) (N := M) (p := p) true hd5 (fun k hk => (hL.old k hk).frame k05 (fun b n c e => far b (hL.ob k hk b n c e).1)) hM1 (by omega)
      (hL.code.frame k05 (fun b n c e => far b (hL.cb b n c e))).sl hL.len hx5 hxf (by omega) (by omega)).mono ?_
    rintro e w6 ⟨rfl, f6, hd6, f', hb6, hf6⟩
    go_wp2_with fail
    go_ret
    refine ⟨rfl, ?_⟩
    exact hL.fresh k05 hrep5 hci3 (by rw [← hl]; exact hst3) hM5 hcN hM2 p.length f6 hd6 hb6 (by omega) ((hL.bf.imp fun f hf => ((hf.frame fa0 (by simp)).frame f2 (by simp)).frame k25 (by unfold pOwn; omega))) hf6
end Go.Proofs.Qxb6500284a
