import Derived.Test.Qxb6500284aWLaw9
namespace Go.Proofs.Qxb6500284a
open Go Go.RowKit

section
variable {ops : Array Oper} {Q : Exit → Act → World → Prop} {a : Act} {w : World} {rest : List Oper} {o : Oper}
theorem wpList_copyCode (hgd : o.guard = none) (x y : Operand) (ho : o.op = .call { callee := .builtin .copy, args := #[x, y], argTypes := #[35, 35] })
    (db dc dm : Nat) (g : Nat → Value) (v : Value) (p : List In) (hx : a.eval x = .slice (some ⟨db, 0, none⟩) p.length dc) (hy : a.eval y = v) (hv : CodeAt w v p) (hd : Blk w db dm g) (hm : p.length * 7 ≤ dm)
    (h : ∀ w' g', Fr (fun b => b = db) w w' → Blk w' db dm g' → Holds7 g' p → wpList Try.prog ops Q rest (a.put o.dst (.int .i64 p.length)) w') : wpList Try.prog ops Q (o :: rest) a w := by
  rcases hv with ⟨rfl, rfl⟩ | ⟨b, cap, f, rfl, hc, hb, hf⟩
  · exact wpList_copyNil hgd x y 35 35 ho 63 7 _ _ _ _ hx hy Try.underlying35 (by kernel_rfl) (h w g (Fr.refl _ _) hd (fun i hi => by simp at hi))
  · exact wpList_copyA hgd x y 35 35 ho 63 7 db 0 p.length dc b 0 p.length cap dm (cap * 7) p.length g f hx hy Try.underlying35 (by kernel_rfl) (by simp) hd hb (by omega) (by omega) (fun j hj => by rw [Nat.zero_add]; exact hf.one j hj)
      (fun w' f1 b1 => h w' _ f1 b1 (hf.lay _ rfl))
end

set_option maxRecDepth 100000 in
set_option maxHeartbeats 4000000 in
theorem sameSearch_buf (hP : Plain) {w : World} {base x m d : Nat} {s : PS} {D : DD} {p : List In} {N : Nat} (hL : LawInv w base x m d s D p N) (hN : N < 4999999999999) (from_ : Int) :
    Calls Try.prog 16 #[.pointer (some ⟨x, 0, none⟩), .pointer (some ⟨m, 0, none⟩), .pointer (some ⟨d, 0, none⟩), .int .i64 from_, .bool true] w fun e w' =>
      e = .returned (.bool true) ∧ (∃ s' D', LawInv w' base x m d s' D' p (N + 1)) ∧ Fr (fun b => x ≤ b) w w' := by
  obtain ⟨l1, l2, l3, l4⟩ := hL.lay
  have hbs := hL.bs
  have hlen := hL.len
  obtain ⟨ca, ccap, hcv, hsl⟩ := hL.code.sl
  have c0 : w.cell? ⟨d, 0, none⟩ = some (.slice ca p.length ccap) := by rw [hL.db.cell (by omega)]; simp [dcell, hcv]
  obtain ⟨E, hE⟩ : ∃ E, E = ansErr p D.sub from_ := ⟨_, rfl⟩
  obtain ⟨O, hO⟩ : ∃ O, O = ansOk p D.sub from_ := ⟨_, rfl⟩
  obtain ⟨C, hC⟩ : ∃ C, C = ansC p D.sub from_ := ⟨_, rfl⟩
  have HE : Hid _ := hE
  have HO : Hid _ := hO
  have HC : Hid _ := hC
  have Hcv : Hid _ := hcv
  clear hE hO hC hcv
  go_enter Try.func16, Try.ntmps16
  go_wp2_with fail
  refine (copyProg_any (v := .slice ca p.length ccap) (by rw [← Hcv.out]; exact hL.code) hL.len).mono ?_
  rintro e w0 ⟨rfl, f0, z0, fx0, hxb0, hxf0⟩
  obtain ⟨fb, hfb⟩ := hL.bf
  have hd0 := hL.db.frame f0 (by simp)
  have c0 : w0.cell? ⟨d, 0, none⟩ = some (.slice ca p.length ccap) := by rw [hd0.cell (by omega)]; simp [dcell, Hcv.out]
  have c8 : w0.cell? ⟨d, 8, none⟩ = some (.slice (some ⟨D.bb, 0, none⟩) 65 65) := by rw [hd0.cell (by omega)]; simp [dcell]
  have hfb0 := hfb.frame f0 (by simp)
  have hcode0 : CodeAt w0 (.slice ca p.length ccap) p := by rw [← Hcv.out]; exact hL.code.frame f0 (by simp)
  go_wp2_with fail
  refine wp_region_text (by kernel_rfl) (by kernel_rfl) ?_
  go_wp2_with fail
  refine ⟨by kernel_rfl, ?_⟩
  go_wp2_with (refine wpList_copyCode (by rfl) _ _ (by rfl) D.bb 65 455 fb _ p (by rfl) (by rfl) (w := w0.drew) (hcode0.frame (S := fun _ => False) (Fr.drew (Fr.refl _ _)) (by simp)) hfb0.drew (by omega) ?_; intro wa fx fa1 hxb hxf; have fa : Fr (fun b => b = D.bb) w wa := (f0.drew.mono (S' := fun b => b = D.bb) (fun _ _ h => h.elim)).trans fa1 (fun _ _ h => h); have hda := hL.db.frame fa (fun (h : d = D.bb) => by omega); have za : w.heap.size < wa.heap.size := Nat.lt_of_lt_of_le z0 fa1.size; have c0 : wa.cell? ⟨d, 0, none⟩ = some (.slice ca p.length ccap) := by rw [hda.cell (by omega)]; simp [dcell, Hcv.out])
  -- copy for the model
  refine (copyProg_any (v := .slice ca p.length ccap) (by rw [← Hcv.out]; exact hL.code.frame fa (fun b n c e h => by have := hL.cb b n c e; omega)) hL.len).mono ?_
  rintro e w2 ⟨rfl, f2, z2, fm, hmb, hmf⟩
  have hx2 := hxb.frame f2 (by simp)
  have fw2 : Fr (fun b => b = D.bb) w w2 := fa.trans f2 (fun _ _ h => h.elim)
  have hrep2 := hL.rep.frame fw2 (fun b hb e => by unfold pOwn at hb; omega)
  have hd2 := hL.db.frame fw2 (fun (h : d = D.bb) => by omega)
  have d1 : w2.cell? ⟨d, 1, none⟩ = some (.string D.sub) := hd2.cell (by omega)
  have hsz2 := fw2.size
  go_wp2_with fail
  refine (search_all hP hrep2 hL.ci p D.bb _ (hxf.at hx2 (by omega)) (by unfold pOwn; omega) (by omega) D.sub from_).mono ?_
  rintro e w3 ⟨rfl, ⟨s', hrep3, hci3, hst3⟩, f3⟩
  have hd3 := hd2.frame f3 (by unfold pOwn; omega)
  rw [← HE.out, ← HO.out, ← HC.out]
  unfold foundV
  have d1 : w3.cell? ⟨d, 1, none⟩ = some (.string D.sub) := hd3.cell (by omega)
  obtain ⟨c, hmb0, hcN⟩ := hL.mb
  have hM3 := (hmb0.frame fw2 (fun (h : m = D.bb) => by omega)).frame f3 (by unfold pOwn; omega)
  have hm3 := hmb.frame f3 (by unfold pOwn; omega)
  have hsz3 := f3.size
  have hdl3 := hd3.lt
  go_wp2_with fail
  have fal3 := (Fr.refl (fun _ => False) w3).alloc (.cells #[.int .i64 E, .int .i64 0, .bool O, .int .i64 (C 0), .int .i64 (C 1), .int .i64 (C 2), .int .i64 (C 3), .int .i64 (C 4), .int .i64 (C 5), .int .i64 (C 6), .int .i64 (C 7)] 55)
  refine (msearch_any (hM3.frame fal3 (by simp)) (by omega) p wa.heap.size _ ((hmf.at hm3 (by omega)).frame fal3 (by simp)) (by omega) (by omega) D.sub from_).mono ?_
  rintro e w4 ⟨rfl, hM4, f4⟩
  rw [← HE.out, ← HO.out, ← HC.out]
  unfold foundV
  have q1 := f4.newCell (fun (h : w3.heap.size = m) => by omega)
  have fw34 : Fr (fun b => b = m) w3 w4 := (fal3.mono (S' := fun b => b = m) (fun _ _ h => h.elim)).trans f4 (fun _ _ h => h)
  have hd4 := hd3.frame fw34 (fun (h : d = m) => by omega)
  have hsz4 := fw34.size
  have hlt34 : w3.heap.size < w4.heap.size := by have := f4.size; simp at this; omega
  have d0 : w4.cell? ⟨d, 0, none⟩ = some (.slice ca p.length ccap) := by rw [hd4.cell (by omega)]; simp [dcell, Hcv.out]
  have d1 : w4.cell? ⟨d, 1, none⟩ = some (.string D.sub) := hd4.cell (by omega)
  have d2 : w4.cell? ⟨d, 2, none⟩ = some (.int .i64 D.lid) := hd4.cell (by omega)
  have dz := hd4.frozen
  have hdl := hd4.lt
  by_cases hE0 : E = 0
  · subst hE0
    obtain ⟨n, rfl, hn1, hn2⟩ : ∃ n : Nat, from_ = n ∧ n ≤ D.sub.size ∧ D.sub.size ≤ 256 := by
      have := HE.out
      rcases ans_cases p D.sub from_ with ⟨h1, e1, e2, e3⟩ | ⟨h1, h2, e1, e2, e3⟩ | ⟨h1, h2, h3, e1, e2, e3⟩ | ⟨h1, h2, n, e0, h4, e1, e2, e3⟩
      · omega
      · omega
      · omega
      · exact ⟨n, e0, h4, h1⟩
    obtain ⟨b1, b2⟩ := lid_ok p D.sub n hlen hn2 hn1
    go_wp2_with fail
    refine wp_region_text (by kernel_rfl) (by kernel_rfl) ?_
    go_wp2_with fail
    refine ⟨by kernel_rfl, ?_⟩
    go_wp2_with fail
    refine (sameFound_any 0 0 O C _).mono ?_
    rintro e w5 ⟨rfl, f5⟩
    have hd5 := ((((((hd4.set 2 _).set 2 _).congr (dcell_lid2 D (4 * (p.length : Int) * ((D.sub.size : Int) - n + 2)) 0)).alloc _).drew)).frame f5 (by simp)
    have k5 : Fr (fun b => b = d) w4 w5 := (((((Fr.refl (fun b => b = d) w4).setC d 2 _ (fun _ => rfl)).setC d 2 _ (fun _ => rfl)).alloc _).drew).trans f5 (fun _ _ h => h.elim)
    have k35 : Fr (fun b => b = m ∨ b = d) w3 w5 := (fw34.mono (S' := fun b => b = m ∨ b = d) (fun _ _ h => .inl h)).trans k5 (fun _ _ h => .inr h)
    have k25 : Fr (fun b => pOwn x b ∨ b = m ∨ b = d) w2 w5 := (f3.mono (S' := fun b => pOwn x b ∨ b = m ∨ b = d) (fun _ _ h => .inl h)).trans k35 (fun _ _ h => .inr h)
    have k05 : Fr (lawS x m d D.bb) w w5 := (fw2.mono (S' := lawS x m d D.bb) (fun _ _ h => .inr (.inr (.inr h)))).trans k25 (fun b _ h => h.elim .inl (fun h => h.elim (fun h => .inr (.inl h)) (fun h => .inr (.inr (.inl h)))))
    have far : ∀ b, base ≤ b → ¬ lawS x m d D.bb b := fun b hb e => by unfold lawS pOwn at e; omega
    have hM5 := hM4.frame k5 (fun (h : m = d) => by omega)
    have hrep5 := hrep3.frame k35 (fun b hb e => by unfold pOwn at hb; omega)
    have hx5 := hx2.frame k25 (by unfold pOwn; omega)
    obtain ⟨M, hM1, hM2⟩ := hL.n
    have hl : lidOf p D.sub n = 4 * (p.length : Int) * ((D.sub.size : Int) - n + 2) := by simp [lidOf, ← HE.out]
    go_wp2_with fail
    refine (scribble_any (D := withLid D (4 * (p.length : Int) * ((D.sub.size : Int) - n + 2))) (N := M) (p := p) false hd5 (fun k hk => (hL.old k hk).frame k05 (fun b n c e => far b (hL.ob k hk b n c e).1)) hM1 (by omega)
      (hL.code.frame k05 (fun b n c e => far b (hL.cb b n c e))).sl hL.len hx5 hxf (by omega) (by omega)).mono ?_
    rintro e w6 ⟨rfl, f6, hd6, f', hb6, hf6⟩
    go_wp2_with fail
    go_ret
    refine ⟨rfl, ?_⟩
    exact hL.buf k05 hrep5 hci3 (by rw [← hl]; exact hst3) hM5 hcN f6 hd6 hb6
  · go_wp2_with fail
    refine (sameFound_any E 0 O C _).mono ?_
    rintro e w5 ⟨rfl, f5⟩
    have hd5 := (((hd4.set 2 _).congr (dcell_lid D 0)).alloc _).frame f5 (by simp)
    have k5 : Fr (fun b => b = d) w4 w5 := (((Fr.refl (fun b => b = d) w4).setC d 2 _ (fun _ => rfl)).alloc _).trans f5 (fun _ _ h => h.elim)
    have k35 : Fr (fun b => b = m ∨ b = d) w3 w5 := (fw34.mono (S' := fun b => b = m ∨ b = d) (fun _ _ h => .inl h)).trans k5 (fun _ _ h => .inr h)
    have k25 : Fr (fun b => pOwn x b ∨ b = m ∨ b = d) w2 w5 := (f3.mono (S' := fun b => pOwn x b ∨ b = m ∨ b = d) (fun _ _ h => .inl h)).trans k35 (fun _ _ h => .inr h)
    have k05 : Fr (lawS x m d D.bb) w w5 := (fw2.mono (S' := lawS x m d D.bb) (fun _ _ h => .inr (.inr (.inr h)))).trans k25 (fun b _ h => h.elim .inl (fun h => h.elim (fun h => .inr (.inl h)) (fun h => .inr (.inr (.inl h)))))
    have far : ∀ b, base ≤ b → ¬ lawS x m d D.bb b := fun b hb e => by unfold lawS pOwn at e; omega
    have hM5 := hM4.frame k5 (fun (h : m = d) => by omega)
    have hrep5 := hrep3.frame k35 (fun b hb e => by unfold pOwn at hb; omega)
    have hx5 := hx2.frame k25 (by unfold pOwn; omega)
    obtain ⟨M, hM1, hM2⟩ := hL.n
    have hl : lidOf p D.sub from_ = 0 := by simp [lidOf, ← HE.out, hE0]
    go_wp2_with fail
    refine (scribble_any (D := withLid D (0)) (N := M) (p := p) false hd5 (fun k hk => (hL.old k hk).frame k05 (fun b n c e => far b (hL.ob k hk b n c e).1)) hM1 (by omega)
      (hL.code.frame k05 (fun b n c e => far b (hL.cb b n c e))).sl hL.len hx5 hxf (by omega) (by omega)).mono ?_
    rintro e w6 ⟨rfl, f6, hd6, f', hb6, hf6⟩
    go_wp2_with fail
    go_ret
    refine ⟨rfl, ?_⟩
    exact hL.buf k05 hrep5 hci3 (by rw [← hl]; exact hst3) hM5 hcN f6 hd6 hb6
end Go.Proofs.Qxb6500284a
