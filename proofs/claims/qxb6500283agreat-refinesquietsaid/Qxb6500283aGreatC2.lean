/- The model's memory; add, set. -/
import Derived.Test.Qxb6500283aGreatC1
import Derived.Test.Qxb6500283aGreatB4
namespace Go.Proofs.Qxb6500283aGreat
open Go Go.RowKit

structure MLay (g : Nat → Value) (p : ByteArray) (iv : Int) (nv : Value) (G : Nat) (e q : Int) : Prop where
  p0 : g 0 = .string p
  i1 : g 1 = .int .i64 iv
  n2 : g 2 = nv
  g3 : g 3 = .int .i64 (G : Nat)
  e4 : g 4 = .int .i64 e
  q5 : g 5 = .int .i64 q
section
variable {g : Nat → Value} {p : ByteArray} {iv : Int} {nv : Value} {G : Nat} {e q : Int}
theorem MLay.setI (h : MLay g p iv nv G e q) (j : Int) : MLay (upd g 1 (.int .i64 j)) p j nv G e q :=
  ⟨by rw [upd_other _ _ _ _ (by omega)]; exact h.p0, upd_same _ _ _, by rw [upd_other _ _ _ _ (by omega)]; exact h.n2, by rw [upd_other _ _ _ _ (by omega)]; exact h.g3, by rw [upd_other _ _ _ _ (by omega)]; exact h.e4, by rw [upd_other _ _ _ _ (by omega)]; exact h.q5⟩
theorem MLay.setN (h : MLay g p iv nv G e q) (v : Value) : MLay (upd g 2 v) p iv v G e q :=
  ⟨by rw [upd_other _ _ _ _ (by omega)]; exact h.p0, by rw [upd_other _ _ _ _ (by omega)]; exact h.i1, upd_same _ _ _, by rw [upd_other _ _ _ _ (by omega)]; exact h.g3, by rw [upd_other _ _ _ _ (by omega)]; exact h.e4, by rw [upd_other _ _ _ _ (by omega)]; exact h.q5⟩
theorem MLay.setG (h : MLay g p iv nv G e q) (G' : Nat) : MLay (upd g 3 (.int .i64 (G' : Nat))) p iv nv G' e q :=
  ⟨by rw [upd_other _ _ _ _ (by omega)]; exact h.p0, by rw [upd_other _ _ _ _ (by omega)]; exact h.i1, by rw [upd_other _ _ _ _ (by omega)]; exact h.n2, upd_same _ _ _, by rw [upd_other _ _ _ _ (by omega)]; exact h.e4, by rw [upd_other _ _ _ _ (by omega)]; exact h.q5⟩
theorem MLay.setE (h : MLay g p iv nv G e q) (e' q' : Int) : MLay (upd (upd g 4 (.int .i64 e')) 5 (.int .i64 q')) p iv nv G e' q' :=
  ⟨by rw [upd_other _ _ _ _ (by omega), upd_other _ _ _ _ (by omega)]; exact h.p0, by rw [upd_other _ _ _ _ (by omega), upd_other _ _ _ _ (by omega)]; exact h.i1, by rw [upd_other _ _ _ _ (by omega), upd_other _ _ _ _ (by omega)]; exact h.n2, by rw [upd_other _ _ _ _ (by omega), upd_other _ _ _ _ (by omega)]; exact h.g3, by rw [upd_other _ _ _ _ (by omega), upd_same], upd_same _ _ _⟩
end
/-- The model's run in memory: no error stands. -/
def MMem (w : World) (r : Nat) (p : ByteArray) (s : Sg) : Prop := ∃ g nv q, Blk w r 6 g ∧ MLay g p s.i nv s.g 0 q ∧ NdsAt w nv s.ns ∧ ∀ b n c, nv = .slice (some ⟨b, 0, none⟩) n c → r < b
/-- An error stands. -/
def MErr (w : World) (r : Nat) (p : ByteArray) (e : Er) (B : Nat) : Prop := ∃ g nv G iv, Blk w r 6 g ∧ MLay g p ((iv : Nat) : Int) nv G e.1 (e.2 : Nat) ∧ iv ≤ B ∧ e.1 ≠ 0
/-- What a function of the model's leaves behind. -/
def MPost (w : World) (r : Nat) (p : ByteArray) (res : Res) (B : Nat) (v : Ending) (w' : World) : Prop :=
  Fr (fun b => r ≤ b) w w' ∧ match res with
  | .ok (y, s) => v = .returned (.int .i64 (y : Nat)) ∧ MMem w' r p s
  | .error e => (∃ u : Int, v = .returned (.int .i64 u)) ∧ MErr w' r p e B
theorem NPAt.one (w : World) (n : Nd) : NPAt (w.alloc (.cells #[.int .i64 n.kind, .int .i64 n.a, .int .i64 n.b, .int .i64 n.mn, .int .i64 n.mx, .int .i64 n.cap, .bool n.lz, .int .u64 (wd n.st 0 : Nat), .int .u64 (wd n.st 1 : Nat), .int .u64 (wd n.st 2 : Nat), .int .u64 (wd n.st 3 : Nat)] 97)) w.heap.size [n] := by
  intro k hk j hj
  obtain rfl : k = 0 := by simp at hk; omega
  have := (Blk.nd w n).cell (o := j) hj
  simpa using this
set_option maxRecDepth 100000 in
set_option maxHeartbeats 4000000 in
theorem addM_any {w : World} {r : Nat} {p : ByteArray} {s : Sg} (nd : Nd) (hM : MMem w r p s) (hlen : s.ns.length ≤ 24) (B : Nat) (hB : s.i ≤ B) : Calls Tryz.prog 101 #[.pointer (some ⟨r, 0, none⟩), ndV nd] w (MPost w r p (addS s nd) B) := by
  obtain ⟨g, nv, q, hb, hL, hN, hnr⟩ := hM
  obtain ⟨i, ns, G⟩ := s
  simp only at hL hN hlen hB
  obtain ⟨na, ncap, hnv⟩ : ∃ a c, nv = .slice a ns.length c := by
    obtain ⟨a, c, e, _⟩ := hN.sl
    exact ⟨a, c, e⟩
  subst hnv
  have c4 := hb.cell (o := 4) (by omega)
  rw [hL.e4] at c4
  have c2 := hb.cell (o := 2) (by omega)
  rw [hL.n2] at c2
  have c1 := hb.cell (o := 1) (by omega)
  rw [hL.i1] at c1
  have z := hb.frozen
  have hrl := hb.lt
  have F0 := (Fr.refl (fun b => r ≤ b) w).alloc (.cells #[.int .i64 nd.kind, .int .i64 nd.a, .int .i64 nd.b, .int .i64 nd.mn, .int .i64 nd.mx, .int .i64 nd.cap, .bool nd.lz, .int .u64 (wd nd.st 0 : Nat), .int .u64 (wd nd.st 1 : Nat), .int .u64 (wd nd.st 2 : Nat), .int .u64 (wd nd.st 3 : Nat)] 97)
  have hb0 := hb.alloc (.cells #[.int .i64 nd.kind, .int .i64 nd.a, .int .i64 nd.b, .int .i64 nd.mn, .int .i64 nd.mx, .int .i64 nd.cap, .bool nd.lz, .int .u64 (wd nd.st 0 : Nat), .int .u64 (wd nd.st 1 : Nat), .int .u64 (wd nd.st 2 : Nat), .int .u64 (wd nd.st 3 : Nat)] 97)
  unfold ndV
  go_enter Tryz.func101, Tryz.ntmps101
  by_cases hfull : 24 ≤ ns.length
  · have hfull' : (24 : Int) ≤ ns.length := by omega
    have Hf : Hid _ := hfull
    clear hfull
    go_wp2_with fail
    refine (failM_any hb0 0 hL.e4 8 i).mono ?_
    rintro e w1 ⟨rfl, hb1, f1⟩
    rw [if_pos rfl] at hb1
    go_wp2_with fail
    go_ret
    refine ⟨F0.trans f1 (fun b _ h => by omega), ?_⟩
    rw [addS_full Hf.out]
    exact ⟨⟨_, rfl⟩, _, _, G, i, hb1, hL.setE 8 i, hB, by simp⟩
  · have hnf : ns.length < 24 := by omega
    clear hfull
    have hnf' : (ns.length : Int) < 24 := by omega
    have Hf : Hid _ := hnf
    clear hnf
    have F1 := (((Fr.refl (fun _ => False) w).alloc (.cells #[.int .i64 nd.kind, .int .i64 nd.a, .int .i64 nd.b, .int .i64 nd.mn, .int .i64 nd.mx, .int .i64 nd.cap, .bool nd.lz, .int .u64 (wd nd.st 0 : Nat), .int .u64 (wd nd.st 1 : Nat), .int .u64 (wd nd.st 2 : Nat), .int .u64 (wd nd.st 3 : Nat)] 97)).alloc (.cells #[.int .i64 nd.kind, .int .i64 nd.a, .int .i64 nd.b, .int .i64 nd.mn, .int .i64 nd.mx, .int .i64 nd.cap, .bool nd.lz, .int .u64 (wd nd.st 0 : Nat), .int .u64 (wd nd.st 1 : Nat), .int .u64 (wd nd.st 2 : Nat), .int .u64 (wd nd.st 3 : Nat)] 97)).drew
    have hb1 := hb.frame F1 (fun h => h)
    have hN1 := hN.frame F1 (fun _ _ _ _ h => h)
    have hp0 := NPAt.one (w.alloc (.cells #[.int .i64 nd.kind, .int .i64 nd.a, .int .i64 nd.b, .int .i64 nd.mn, .int .i64 nd.mx, .int .i64 nd.cap, .bool nd.lz, .int .u64 (wd nd.st 0 : Nat), .int .u64 (wd nd.st 1 : Nat), .int .u64 (wd nd.st 2 : Nat), .int .u64 (wd nd.st 3 : Nat)] 97)) nd
    rw [World.size_alloc] at hp0
    have hp1 := hp0.frame (Fr.refl (fun _ => False) _).drew (fun h => h)
    go_wp2_with fail
    refine wp_region_text (by kernel_rfl) (by kernel_rfl) ?_
    go_wp2_with (at_builtin; refine wpList_appendNd (by rfl) _ _ (by rfl) (.slice na ns.length ncap) ns nd (w.heap.size + 1) 1 (by rfl) (by rfl) hN1 hp1 (by omega) ?_; intro v' w8 hc hb8 f8; obtain ⟨va, vcap, rfl, hsl8⟩ := hc.sl; have hrb := hb1.frame f8 (fun ⟨n, c, e⟩ => by have := hnr _ _ _ e; omega); have d2 := hrb.cell (o := 2) (by omega); have z8 := hrb.frozen)
    refine ⟨by kernel_rfl, ?_⟩
    have hvr : ∀ b n c, Value.slice va (ns ++ [nd]).length vcap = .slice (some ⟨b, 0, none⟩) n c → r < b := fun b n c e => by
      rcases hb8 b n c e with h | ⟨n', c', h⟩
      · simp only [World.size_drew, World.size_alloc] at h; omega
      · exact hnr b n' c' h
    have hc2 := hc.frame ((Fr.refl (fun b => b = r) w8).setC r 2 (.slice va (ns ++ [nd]).length vcap) (fun _ => rfl)) (fun b n c e h => by have := hvr b n c e; omega)
    rw [one_append] at hc2 hvr
    go_wp2_with fail
    go_ret
    refine ⟨((F1.mono (fun _ _ h => h.elim)).trans f8 (fun b hb ⟨n, c, e⟩ => by have := hnr b n c e; omega)).setC r 2 _ (fun _ => Nat.le_refl _), ?_⟩
    rw [addS_room Hf.out]
    exact ⟨rfl, _, _, q, hrb.set 2 _, hL.setN _, hc2, hvr⟩
set_option maxHeartbeats 1000000 in
theorem addM_err {w : World} {r : Nat} {p : ByteArray} {e : Er} {B : Nat} (nv : Value) (k a b mn mx cap : Int) (lz : Bool) (s0 s1 s2 s3 : Int) (hn : nv = .agg #[.int .i64 k, .int .i64 a, .int .i64 b, .int .i64 mn, .int .i64 mx, .int .i64 cap, .bool lz, .int .u64 s0, .int .u64 s1, .int .u64 s2, .int .u64 s3]) (hM : MErr w r p e B) : Calls Tryz.prog 101 #[.pointer (some ⟨r, 0, none⟩), nv] w (MPost w r p (.error e) B) := by
  subst hn
  obtain ⟨g, nv, G, iv, hb, hL, hiv, he⟩ := hM
  have c4 := hb.cell (o := 4) (by omega)
  rw [hL.e4] at c4
  have hrl := hb.lt
  have t0 : (e.1 != 0) = true := by simpa using he
  go_enter Tryz.func101, Tryz.ntmps101
  go_wp2_with fail
  go_ret
  exact ⟨(Fr.refl _ _).alloc _, ⟨_, rfl⟩, g, nv, G, iv, hb.alloc _, hL, hiv, he⟩
set_option maxHeartbeats 1000000 in
theorem setM_any {w : World} {r : Nat} {p : ByteArray} {s : Sg} (P : BSet) (hM : MMem w r p s) (hlen : s.ns.length ≤ 24) (B : Nat) (hB : s.i ≤ B) : Calls Tryz.prog 163 #[.pointer (some ⟨r, 0, none⟩), setV P] w (MPost w r p (addS s (leafNd 1 P)) B) := by
  have F1 := (Fr.refl (fun _ => False) w).alloc (.cells #[.int .u64 (wd P 0 : Nat), .int .u64 (wd P 1 : Nat), .int .u64 (wd P 2 : Nat), .int .u64 (wd P 3 : Nat)] 95)
  have hM1 : MMem (w.alloc (.cells #[.int .u64 (wd P 0 : Nat), .int .u64 (wd P 1 : Nat), .int .u64 (wd P 2 : Nat), .int .u64 (wd P 3 : Nat)] 95)) r p s := by
    obtain ⟨g, nv, q, hb, hL, hN, hnr⟩ := hM
    exact ⟨g, nv, q, hb.alloc _, hL, hN.frame F1 (fun _ _ _ _ h => h), hnr⟩
  unfold setV
  go_enter Tryz.func163, Tryz.ntmps163
  go_wp2_with fail
  rw [← ndV_leaf]
  refine (addM_any (leafNd 1 P) hM1 hlen B hB).mono ?_
  rintro e w2 ⟨f2, hP⟩
  have F2 := (F1.mono (S' := fun b => r ≤ b) (fun _ _ h => h.elim)).trans f2 (fun _ _ h => h)
  generalize addS s (leafNd 1 P) = res at *
  cases res with
  | error er =>
    obtain ⟨⟨u, rfl⟩, hE⟩ := hP
    go_wp2_with fail
    go_ret
    exact ⟨F2, ⟨_, rfl⟩, hE⟩
  | ok v =>
    obtain ⟨y, s'⟩ := v
    obtain ⟨rfl, hE⟩ := hP
    go_wp2_with fail
    go_ret
    exact ⟨F2, rfl, hE⟩
end Go.Proofs.Qxb6500283aGreat
