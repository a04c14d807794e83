/- The real parser's add, leaf. -/
import Derived.Test.Qxb6500283aGreatB1
import Derived.Deep.RegionWith
namespace Go.Proofs.Qxb6500283aGreat
open Go Go.RowKit

def upd11 (f : Nat → Value) (b : Nat) (nd : Nd) : Nat → Value := (upd (upd (upd (upd (upd (upd (upd (upd (upd (upd (upd f (b) (.int .i64 nd.kind)) (b + 1) (.int .i64 nd.a)) (b + 2) (.int .i64 nd.b)) (b + 3) (.int .i64 nd.mn)) (b + 4) (.int .i64 nd.mx)) (b + 5) (.int .i64 nd.cap)) (b + 6) (.bool nd.lz)) (b + 7) (.int .u64 (wd nd.st 0 : Nat))) (b + 8) (.int .u64 (wd nd.st 1 : Nat))) (b + 9) (.int .u64 (wd nd.st 2 : Nat))) (b + 10) (.int .u64 (wd nd.st 3 : Nat)))
theorem upd11_in (f : Nat → Value) (b : Nat) (nd : Nd) : ∀ j, j < 11 → upd11 f b nd (b + j) = ndCell nd j := by
  intro j hj
  rcases lt11 hj with rfl | rfl | rfl | rfl | rfl | rfl | rfl | rfl | rfl | rfl | rfl <;> simp [upd11, upd, ndCell]
theorem upd11_out (f : Nat → Value) (b o : Nat) (nd : Nd) (h : o < b ∨ b + 11 ≤ o) : upd11 f b nd o = f o := by
  unfold upd11
  iterate 11 rw [upd_other _ _ _ _ (by omega)]
/-- What add leaves behind. -/
def AddPost (w : World) (x : Nat) (p : ByteArray) (i : Nat) (ns : List Nd) (g : Nat) (t : Frm) (r : List Frm) (q0 : Int) (nd : Nd) (e : Ending) (w' : World) : Prop :=
  Fr (fun b => b = x) w w' ∧ ((24 ≤ ns.length ∧ e = .returned (.int .i64 (-1)) ∧ ∃ f', Blk w' x 325 f' ∧ Lay f' p i ns g t r 8 i) ∨ (ns.length < 24 ∧ e = .returned (.int .i64 (ns.length : Nat)) ∧ ∃ f', Blk w' x 325 f' ∧ Lay f' p i (ns ++ [nd]) g t r 0 q0))
set_option maxRecDepth 100000 in
set_option maxHeartbeats 8000000 in
theorem addR_any {w : World} {x : Nat} {f : Nat → Value} {p : ByteArray} {i : Nat} {ns : List Nd} {g : Nat} {t : Frm} {r : List Frm} {q0 : Int} (nd : Nd) (hb : Blk w x 325 f) (hL : Lay f p i ns g t r 0 q0) (hlen : ns.length ≤ 24) (hd : r.length ≤ 5) (hok : okNd ns.length nd) :
    Calls Tryz.prog 146 #[.pointer (some ⟨x, 0, none⟩), ndV nd] w (AddPost w x p i ns g t r q0 nd) := by
  have cn := hb.cell (o := 290) (by omega)
  rw [hL.n] at cn
  have ci := hb.cell (o := 1) (by omega)
  rw [hL.i1] at ci
  have z := hb.frozen
  have hxl := hb.lt
  have F0 := (Fr.refl (fun b => b = x) w).alloc (.cells #[.int .i64 nd.kind, .int .i64 nd.a, .int .i64 nd.b, .int .i64 nd.mn, .int .i64 nd.mx, .int .i64 nd.cap, .bool nd.lz, .int .u64 (wd nd.st 0 : Nat), .int .u64 (wd nd.st 1 : Nat), .int .u64 (wd nd.st 2 : Nat), .int .u64 (wd nd.st 3 : Nat)] 97)
  have hb0 := hb.alloc (.cells #[.int .i64 nd.kind, .int .i64 nd.a, .int .i64 nd.b, .int .i64 nd.mn, .int .i64 nd.mx, .int .i64 nd.cap, .bool nd.lz, .int .u64 (wd nd.st 0 : Nat), .int .u64 (wd nd.st 1 : Nat), .int .u64 (wd nd.st 2 : Nat), .int .u64 (wd nd.st 3 : Nat)] 97)
  unfold ndV
  go_enter Tryz.func146, Tryz.ntmps146
  by_cases hfull : 24 ≤ ns.length
  · have hfull' : (24 : Int) ≤ ns.length := by omega
    go_wp2_with fail
    refine (failR_any hb0 8 i).mono ?_
    rintro e w1 ⟨rfl, hb1, f1⟩
    go_wp2_with fail
    go_ret
    exact ⟨F0.trans f1 (fun _ _ h => h), .inl ⟨hfull, rfl, _, hb1, hL.setE hlen hd 8 i⟩⟩
  · have hnf : ns.length < 24 := by omega
    clear hfull
    have n0 := hb.cell (o := 2 + ns.length * 11) (by omega)
    have n1 := hb.cell (o := 2 + ns.length * 11 + 1) (by omega)
    have n2 := hb.cell (o := 2 + ns.length * 11 + 2) (by omega)
    have n3 := hb.cell (o := 2 + ns.length * 11 + 3) (by omega)
    have n4 := hb.cell (o := 2 + ns.length * 11 + 4) (by omega)
    have n5 := hb.cell (o := 2 + ns.length * 11 + 5) (by omega)
    have n6 := hb.cell (o := 2 + ns.length * 11 + 6) (by omega)
    have n7 := hb.cell (o := 2 + ns.length * 11 + 7) (by omega)
    have n8 := hb.cell (o := 2 + ns.length * 11 + 8) (by omega)
    have n9 := hb.cell (o := 2 + ns.length * 11 + 9) (by omega)
    have n10 := hb.cell (o := 2 + ns.length * 11 + 10) (by omega)
    have nn := hb.cell (o := 266 + ns.length) (by omega)
    have hb1 := (((((((((((((hb.set (2 + ns.length * 11) (.int .i64 nd.kind)).set (2 + ns.length * 11 + 1) (.int .i64 nd.a)).set (2 + ns.length * 11 + 2) (.int .i64 nd.b)).set (2 + ns.length * 11 + 3) (.int .i64 nd.mn)).set (2 + ns.length * 11 + 4) (.int .i64 nd.mx)).set (2 + ns.length * 11 + 5) (.int .i64 nd.cap)).set (2 + ns.length * 11 + 6) (.bool nd.lz)).set (2 + ns.length * 11 + 7) (.int .u64 (wd nd.st 0 : Nat))).set (2 + ns.length * 11 + 8) (.int .u64 (wd nd.st 1 : Nat))).set (2 + ns.length * 11 + 9) (.int .u64 (wd nd.st 2 : Nat))).set (2 + ns.length * 11 + 10) (.int .u64 (wd nd.st 3 : Nat)))).alloc (.cells #[.int .i64 nd.kind, .int .i64 nd.a, .int .i64 nd.b, .int .i64 nd.mn, .int .i64 nd.mx, .int .i64 nd.cap, .bool nd.lz, .int .u64 (wd nd.st 0 : Nat), .int .u64 (wd nd.st 1 : Nat), .int .u64 (wd nd.st 2 : Nat), .int .u64 (wd nd.st 3 : Nat)] 97)).drew.drew
    have F1 := ((((((((((((((Fr.refl (fun b => b = x) w).setC x (2 + ns.length * 11) (.int .i64 nd.kind) (fun _ => rfl)).setC x (2 + ns.length * 11 + 1) (.int .i64 nd.a) (fun _ => rfl)).setC x (2 + ns.length * 11 + 2) (.int .i64 nd.b) (fun _ => rfl)).setC x (2 + ns.length * 11 + 3) (.int .i64 nd.mn) (fun _ => rfl)).setC x (2 + ns.length * 11 + 4) (.int .i64 nd.mx) (fun _ => rfl)).setC x (2 + ns.length * 11 + 5) (.int .i64 nd.cap) (fun _ => rfl)).setC x (2 + ns.length * 11 + 6) (.bool nd.lz) (fun _ => rfl)).setC x (2 + ns.length * 11 + 7) (.int .u64 (wd nd.st 0 : Nat)) (fun _ => rfl)).setC x (2 + ns.length * 11 + 8) (.int .u64 (wd nd.st 1 : Nat)) (fun _ => rfl)).setC x (2 + ns.length * 11 + 9) (.int .u64 (wd nd.st 2 : Nat)) (fun _ => rfl)).setC x (2 + ns.length * 11 + 10) (.int .u64 (wd nd.st 3 : Nat)) (fun _ => rfl))).alloc (.cells #[.int .i64 nd.kind, .int .i64 nd.a, .int .i64 nd.b, .int .i64 nd.mn, .int .i64 nd.mx, .int .i64 nd.cap, .bool nd.lz, .int .u64 (wd nd.st 0 : Nat), .int .u64 (wd nd.st 1 : Nat), .int .u64 (wd nd.st 2 : Nat), .int .u64 (wd nd.st 3 : Nat)] 97)).drew.drew
    have hf1 : ∀ k, k < ns.length → upd11 f (2 + ns.length * 11) nd (266 + k) = .bool (nul ns k) := fun k hk => by rw [upd11_out _ _ _ _ (by omega)]; exact hL.nl k hk
    go_wp2_with fail
    refine wp_region_text (by kernel_rfl) (by kernel_rfl) ?_
    go_wp2_with fail
    refine ⟨by kernel_rfl, ?_⟩
    go_wp2_with fail
    go_region_with (refine (nullOf_any nd ns hb1 hf1 hlen hok).mono ?_; rintro e w2 ⟨rfl, f2⟩; have hb2 : Blk w2 x 325 (upd11 f (2 + ns.length * 11) nd) := hb1.frame f2 (by simp); have F2 := F1.trans f2 (fun _ _ h => h.elim); have b0 := hb2.cell (o := 266 + ns.length) (by omega); have b1 := hb2.cell (o := 290) (by omega); have z2 := hb2.frozen)
    all_goals
      go_wp2_with fail
      go_ret
      refine ⟨(F2.setC x (266 + ns.length) _ (fun _ => rfl)).setC x 290 _ (fun _ => rfl), .inr ⟨hnf, rfl, _, (hb2.set (266 + ns.length) _).set 290 _, hL.add hnf hd (fun j hj => ?_) ?_ ?_ (fun o h1 h2 h3 h4 => ?_)⟩⟩
      · rw [upd_other _ _ _ _ (by omega), upd_other _ _ _ _ (by omega), upd11_in _ _ _ _ hj]
      · rw [upd_other _ _ _ _ (by omega), upd_same]
      · rw [upd_same]; rfl
      · rw [upd_other _ _ _ _ h2, upd_other _ _ _ _ h3, upd11_out _ _ _ _ (by omega)]
end Go.Proofs.Qxb6500283aGreat
