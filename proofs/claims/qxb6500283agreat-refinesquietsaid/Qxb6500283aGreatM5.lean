/- The model's run in memory; add. -/
import Derived.Test.Qxb6500283aGreatM4
namespace Go.Proofs.Qxb6500283aGreat
open Go Go.RowKit

structure RLay (q : Nat → Value) (bk l cp : Nat) (y g : Int) (nv : Value) : Prop where
  t0 : q 0 = .slice (some ⟨bk, 0, none⟩) l cp
  t1 : q 1 = .int .i64 y
  t2 : q 2 = .int .i64 g
  t3 : q 3 = .int .i64 0
  t4 : q 4 = .int .i64 0
  o5 : q 5 = nv
theorem RLay.setO {q : Nat → Value} {bk l cp : Nat} {y g : Int} {nv : Value} (h : RLay q bk l cp y g nv) (v : Value) : RLay (upd q 5 v) bk l cp y g v :=
  ⟨by rw [upd_other _ _ _ _ (by omega)]; exact h.t0, by rw [upd_other _ _ _ _ (by omega)]; exact h.t1, by rw [upd_other _ _ _ _ (by omega)]; exact h.t2, by rw [upd_other _ _ _ _ (by omega)]; exact h.t3, by rw [upd_other _ _ _ _ (by omega)]; exact h.t4, upd_same _ _ _⟩
/-- The model's run: the tree ns at bk, the arena out. -/
def RM (w : World) (r bk cp : Nat) (y g : Int) (ns out : List Nd) (OB : Nat → Prop) : Prop := ∃ q nv, Blk w r 6 q ∧ RLay q bk ns.length cp y g nv ∧ NdsAt w nv out ∧ (∀ b n c, nv = .slice (some ⟨b, 0, none⟩) n c → r < b ∧ OB b) ∧ NPAt w bk ns ∧ bk < r
theorem RM.idle {w w' : World} {r bk cp : Nat} {y g : Int} {ns out : List Nd} {OB : Nat → Prop} (h : RM w r bk cp y g ns out OB) (k : Fr (fun _ => False) w w') : RM w' r bk cp y g ns out OB := by
  obtain ⟨q, nv, a, b, c, d, e, f⟩ := h
  exact ⟨q, nv, a.frame k (fun h => h), b, c.frame k (fun _ _ _ _ h => h), d, e.frame k (fun h => h), f⟩
theorem RM.mono {w : World} {r bk cp : Nat} {y g : Int} {ns out : List Nd} {OB OB' : Nat → Prop} (h : RM w r bk cp y g ns out OB) (k : ∀ b, OB b → OB' b) : RM w r bk cp y g ns out OB' := by
  obtain ⟨q, nv, a, b, c, d, e, f⟩ := h
  exact ⟨q, nv, a, b, c, fun b n c e => ⟨(d b n c e).1, k b (d b n c e).2⟩, e, f⟩
def Up (OB : Nat → Prop) (w : World) (b : Nat) : Prop := OB b ∨ w.heap.size ≤ b
def InR (r : Nat) (OB : Nat → Prop) (b : Nat) : Prop := b = r ∨ OB b
/-- Two steps of the run are one. -/
theorem InR.trans {w w1 w2 : World} {r : Nat} {OB : Nat → Prop} (f1 : Fr (InR r OB) w w1) (f2 : Fr (InR r (Up OB w)) w1 w2) : Fr (InR r OB) w w2 :=
  f1.trans f2 fun b hb h => h.elim .inl (fun h => h.elim .inr (fun h => by omega))
theorem Up.up {w w1 : World} {S OB : Nat → Prop} (f : Fr S w w1) (b : Nat) (h : Up (Up OB w) w1 b) : Up OB w b :=
  h.elim id (fun h => .inr (Nat.le_trans f.size h))
theorem RM.cells {w : World} {r bk cp : Nat} {y g : Int} {ns out : List Nd} {OB : Nat → Prop} (h : RM w r bk cp y g ns out OB) : w.cell? ⟨r, 0, none⟩ = some (.slice (some ⟨bk, 0, none⟩) ns.length cp) ∧ w.cell? ⟨r, 1, none⟩ = some (.int .i64 y) ∧ w.cell? ⟨r, 2, none⟩ = some (.int .i64 g) ∧ w.cell? ⟨r, 3, none⟩ = some (.int .i64 0) ∧ w.cell? ⟨r, 4, none⟩ = some (.int .i64 0) ∧ NPAt w bk ns ∧ r < w.heap.size ∧ bk < r := by
  obtain ⟨q, nv, a, b, c, d, e, f⟩ := h
  exact ⟨by rw [a.cell (by omega), b.t0], by rw [a.cell (by omega), b.t1], by rw [a.cell (by omega), b.t2], by rw [a.cell (by omega), b.t3], by rw [a.cell (by omega), b.t4], e, a.lt, f⟩
set_option maxRecDepth 100000 in
set_option maxHeartbeats 4000000 in
theorem addC_any {w : World} {r bk cp : Nat} {y g : Int} {ns out : List Nd} {OB : Nat → Prop} (nd : Nd) (hM : RM w r bk cp y g ns out OB) (hlen : out.length ≤ 31) : Calls Tryz.prog 104 #[.pointer (some ⟨r, 0, none⟩), ndV nd] w fun v w' => v = .returned (.int .i64 (out.length : Nat)) ∧ RM w' r bk cp y g ns (out ++ [nd]) (Up OB w) ∧ Fr (InR r OB) w w' := by
  obtain ⟨q, nv, hb, hL, hN, hnr, hT, hbr⟩ := hM
  obtain ⟨na, ncap, hnv⟩ : ∃ a c, nv = .slice a out.length c := by
    obtain ⟨a, c, e, _⟩ := hN.sl
    exact ⟨a, c, e⟩
  subst hnv
  have c5 := hb.cell (o := 5) (by omega)
  rw [hL.o5] at c5
  have z := hb.frozen
  have hrl := hb.lt
  have hlI : (out.length : Int) ≤ 31 := by omega
  unfold ndV
  go_enter Tryz.func104, Tryz.ntmps104
  have F1 := (((Fr.refl (fun _ => False) w).alloc (.cells #[.int .i64 nd.kind, .int .i64 nd.a, .int .i64 nd.b, .int .i64 nd.mn, .int .i64 nd.mx, .int .i64 nd.cap, .bool nd.lz, .int .u64 (wd nd.st 0 : Nat), .int .u64 (wd nd.st 1 : Nat), .int .u64 (wd nd.st 2 : Nat), .int .u64 (wd nd.st 3 : Nat)] 97)).alloc (.cells #[.int .i64 nd.kind, .int .i64 nd.a, .int .i64 nd.b, .int .i64 nd.mn, .int .i64 nd.mx, .int .i64 nd.cap, .bool nd.lz, .int .u64 (wd nd.st 0 : Nat), .int .u64 (wd nd.st 1 : Nat), .int .u64 (wd nd.st 2 : Nat), .int .u64 (wd nd.st 3 : Nat)] 97)).drew
  have hb1 := hb.frame F1 (fun h => h)
  have hN1 := hN.frame F1 (fun _ _ _ _ h => h)
  have hp0 := NPAt.one (w.alloc (.cells #[.int .i64 nd.kind, .int .i64 nd.a, .int .i64 nd.b, .int .i64 nd.mn, .int .i64 nd.mx, .int .i64 nd.cap, .bool nd.lz, .int .u64 (wd nd.st 0 : Nat), .int .u64 (wd nd.st 1 : Nat), .int .u64 (wd nd.st 2 : Nat), .int .u64 (wd nd.st 3 : Nat)] 97)) nd
  rw [World.size_alloc] at hp0
  have hp1 := hp0.frame (Fr.refl (fun _ => False) _).drew (fun h => h)
  go_wp2_with fail
  refine wp_region_text (by kernel_rfl) (by kernel_rfl) ?_
  go_wp2_with (at_builtin; refine wpList_appendNd (by rfl) _ _ (by rfl) (.slice na out.length ncap) out nd (w.heap.size + 1) 1 (by rfl) (by rfl) hN1 hp1 (by omega) ?_; intro v' w8 hc hb8 f8; obtain ⟨va, vcap, rfl, hsl8⟩ := hc.sl; have hrb := hb1.frame f8 (fun ⟨n, c, e⟩ => by have := (hnr _ _ _ e).1; omega); have d2 := hrb.cell (o := 5) (by omega); have z8 := hrb.frozen)
  refine ⟨by kernel_rfl, ?_⟩
  have hvr : ∀ b n c, Value.slice va (out ++ [nd]).length vcap = .slice (some ⟨b, 0, none⟩) n c → r < b ∧ Up OB w b := fun b n c e => by
    rcases hb8 b n c e with h | ⟨n', c', h⟩
    · simp only [World.size_drew, World.size_alloc] at h; exact ⟨by omega, .inr (by omega)⟩
    · exact ⟨(hnr b n' c' h).1, .inl (hnr b n' c' h).2⟩
  have hc2 := hc.frame ((Fr.refl (fun b => b = r) w8).setC r 5 (.slice va (out ++ [nd]).length vcap) (fun _ => rfl)) (fun b n c e h => by have := (hvr b n c e).1; omega)
  have hT8 := ((hT.frame F1 (fun h => h)).frame f8 (fun ⟨n, c, e⟩ => by have := (hnr _ _ _ e).1; omega)).frame ((Fr.refl (fun b => b = r) w8).setC r 5 (.slice va (out ++ [nd]).length vcap) (fun _ => rfl)) (by omega)
  rw [one_append] at hc2 hvr hT8
  go_wp2_with fail
  go_ret
  refine ⟨?_, ⟨_, _, hrb.set 5 _, hL.setO _, hc2, hvr, hT8, hbr⟩, ((F1.mono (fun _ _ h => h.elim)).trans f8 (fun b hb ⟨n, c, e⟩ => .inr (hnr b n c e).2)).setC r 5 _ (fun _ => .inl rfl)⟩
  simp
end Go.Proofs.Qxb6500283aGreat
