/- The real parser's memory, and nullOf. -/
import Derived.Test.Qxb6500283aGreatA8
import Derived.Test.Qxb6500283aGreatA11
namespace Go.Proofs.Qxb6500283aGreat
open Go Go.RowKit

def ndCell (n : Nd) (j : Nat) : Value :=
  match j with
  | 0 => .int .i64 n.kind
  | 1 => .int .i64 n.a
  | 2 => .int .i64 n.b
  | 3 => .int .i64 n.mn
  | 4 => .int .i64 n.mx
  | 5 => .int .i64 n.cap
  | 6 => .bool n.lz
  | 7 => .int .u64 (wd n.st 0 : Nat)
  | 8 => .int .u64 (wd n.st 1 : Nat)
  | 9 => .int .u64 (wd n.st 2 : Nat)
  | _ => .int .u64 (wd n.st 3 : Nat)
/-- A node's value. -/
def ndV (n : Nd) : Value := .agg #[.int .i64 n.kind, .int .i64 n.a, .int .i64 n.b, .int .i64 n.mn, .int .i64 n.mx, .int .i64 n.cap, .bool n.lz, .int .u64 (wd n.st 0 : Nat), .int .u64 (wd n.st 1 : Nat), .int .u64 (wd n.st 2 : Nat), .int .u64 (wd n.st 3 : Nat)]
theorem lt11 {o : Nat} (h : o < 11) : o = 0 ∨ o = 1 ∨ o = 2 ∨ o = 3 ∨ o = 4 ∨ o = 5 ∨ o = 6 ∨ o = 7 ∨ o = 8 ∨ o = 9 ∨ o = 10 := by omega
theorem Blk.nd (w : World) (n : Nd) : Blk (w.alloc (.cells #[.int .i64 n.kind, .int .i64 n.a, .int .i64 n.b, .int .i64 n.mn, .int .i64 n.mx, .int .i64 n.cap, .bool n.lz, .int .u64 (wd n.st 0 : Nat), .int .u64 (wd n.st 1 : Nat), .int .u64 (wd n.st 2 : Nat), .int .u64 (wd n.st 3 : Nat)] 97)) w.heap.size 11 (ndCell n) :=
  Blk.new w _ _ _ fun o ho => by
    rcases lt11 (show o < 11 by simpa using ho) with rfl | rfl | rfl | rfl | rfl | rfl | rfl | rfl | rfl | rfl | rfl <;> rfl
def oi (o : Option Nat) : Int := match o with | none => -1 | some k => k
def frCell (g : Frm) (j : Nat) : Value :=
  match j with
  | 0 => .int .i64 (oi g.alt)
  | 1 => .int .i64 (oi g.cat)
  | 2 => .int .i64 (oi g.atom)
  | 3 => .int .i64 (g.num : Nat)
  | _ => .int .i64 (g.at_ : Nat)
def StkAt (f : Nat → Value) : List Frm → Prop
  | [] => True
  | g :: r => (∀ j, j < 5 → f (291 + r.length * 5 + j) = frCell g j) ∧ StkAt f r
/-- The parser's cells. -/
structure Lay (f : Nat → Value) (p : ByteArray) (iv : Int) (ns : List Nd) (g : Nat) (t : Frm) (r : List Frm) (e q : Int) : Prop where
  p0 : f 0 = .string p
  i1 : f 1 = .int .i64 iv
  nd : ∀ k (h : k < ns.length) j, j < 11 → f (2 + k * 11 + j) = ndCell ns[k] j
  nl : ∀ k, k < ns.length → f (266 + k) = .bool (nul ns k)
  n : f 290 = .int .i64 (ns.length : Nat)
  st : StkAt f (t :: r)
  dp : f 321 = .int .i64 (r.length : Nat)
  gr : f 322 = .int .i64 (g : Nat)
  er : f 323 = .int .i64 e
  ps : f 324 = .int .i64 q
theorem StkAt.same {f f' : Nat → Value} : ∀ {s : List Frm}, StkAt f s → (∀ o, 291 ≤ o → o < 291 + s.length * 5 → f' o = f o) → StkAt f' s := by
  intro s
  induction s with
  | nil => exact fun _ _ => trivial
  | cons g r ih =>
    intro h e
    simp only [List.length_cons] at e
    exact ⟨fun j hj => by rw [e _ (by omega) (by omega)]; exact h.1 j hj, ih h.2 (fun o h1 h2 => e o h1 (by omega))⟩
section
variable {f f' : Nat → Value} {p : ByteArray} {iv : Int} {ns : List Nd} {g : Nat} {t : Frm} {r : List Frm} {e q : Int}
theorem Lay.setI (h : Lay f p iv ns g t r e q) (jv : Int) : Lay (upd f 1 (.int .i64 jv)) p jv ns g t r e q :=
  ⟨by rw [upd_other _ _ _ _ (by omega)]; exact h.p0, upd_same _ _ _, fun k hk j hj => by rw [upd_other _ _ _ _ (by omega)]; exact h.nd k hk j hj, fun k hk => by rw [upd_other _ _ _ _ (by omega)]; exact h.nl k hk, by rw [upd_other _ _ _ _ (by omega)]; exact h.n,
   h.st.same (fun o h1 h2 => upd_other _ _ _ _ (by omega)), by rw [upd_other _ _ _ _ (by omega)]; exact h.dp, by rw [upd_other _ _ _ _ (by omega)]; exact h.gr, by rw [upd_other _ _ _ _ (by omega)]; exact h.er, by rw [upd_other _ _ _ _ (by omega)]; exact h.ps⟩
theorem Lay.setE (h : Lay f p iv ns g t r e q) (hl : ns.length ≤ 24) (hd : r.length ≤ 5) (e' q' : Int) : Lay (upd (upd f 323 (.int .i64 e')) 324 (.int .i64 q')) p iv ns g t r e' q' := by
  have s : ∀ o, o ≠ 323 → o ≠ 324 → upd (upd f 323 (.int .i64 e')) 324 (.int .i64 q') o = f o := fun o h1 h2 => by rw [upd_other _ _ _ _ h2, upd_other _ _ _ _ h1]
  exact ⟨by rw [s _ (by omega) (by omega)]; exact h.p0, by rw [s _ (by omega) (by omega)]; exact h.i1, fun k hk j hj => by rw [s _ (by omega) (by omega)]; exact h.nd k hk j hj, fun k hk => by rw [s _ (by omega) (by omega)]; exact h.nl k hk, by rw [s _ (by omega) (by omega)]; exact h.n,
   h.st.same (fun o h1 h2 => s _ (by simp at h2; omega) (by simp at h2; omega)), by rw [s _ (by omega) (by omega)]; exact h.dp, by rw [s _ (by omega) (by omega)]; exact h.gr, by rw [upd_other _ _ _ _ (by omega), upd_same], upd_same _ _ _⟩
/-- A node more. -/
theorem Lay.add {nd : Nd} (h : Lay f p iv ns g t r e q) (hl : ns.length < 24) (hd : r.length ≤ 5) (h1 : ∀ j, j < 11 → f' (2 + ns.length * 11 + j) = ndCell nd j) (h2 : f' (266 + ns.length) = .bool (nullNd (nulL ns) nd)) (h3 : f' 290 = .int .i64 ((ns.length + 1 : Nat) : Int))
    (hs : ∀ o, o < 325 → o ≠ 290 → o ≠ 266 + ns.length → (o < 2 + ns.length * 11 ∨ 13 + ns.length * 11 ≤ o) → f' o = f o) : Lay f' p iv (ns ++ [nd]) g t r e q := by
  refine ⟨by rw [hs _ (by omega) (by omega) (by omega) (by omega)]; exact h.p0, by rw [hs _ (by omega) (by omega) (by omega) (by omega)]; exact h.i1, fun k hk j hj => ?_, fun k hk => ?_, by rw [h3]; simp, h.st.same (fun o h1 h2 => ?_), by rw [hs _ (by omega) (by omega) (by omega) (by omega)]; exact h.dp, by rw [hs _ (by omega) (by omega) (by omega) (by omega)]; exact h.gr, by rw [hs _ (by omega) (by omega) (by omega) (by omega)]; exact h.er, by rw [hs _ (by omega) (by omega) (by omega) (by omega)]; exact h.ps⟩
  · by_cases hlt : k < ns.length
    · rw [List.getElem_append_left hlt, hs _ (by omega) (by omega) (by omega) (by omega)]
      exact h.nd k hlt j hj
    · obtain rfl : k = ns.length := by simp at hk; omega
      simp only [List.getElem_concat_length]
      exact h1 j hj
  · by_cases hlt : k < ns.length
    · rw [nul_add _ _ _ hlt, hs _ (by omega) (by omega) (by omega) (by omega)]
      exact h.nl k hlt
    · obtain rfl : k = ns.length := by simp at hk; omega
      rw [h2, nul_last]
  · simp at h2
    rw [hs _ (by omega) (by omega) (by omega) (by omega)]
/-- Another top frame. -/
theorem Lay.top {t' : Frm} (h : Lay f p iv ns g t r e q) (hl : ns.length ≤ 24) (hd : r.length ≤ 5) (h1 : ∀ j, j < 5 → f' (291 + r.length * 5 + j) = frCell t' j) (hs : ∀ o, o < 325 → (o < 291 + r.length * 5 ∨ 296 + r.length * 5 ≤ o) → f' o = f o) : Lay f' p iv ns g t' r e q :=
  ⟨by rw [hs _ (by omega) (by omega)]; exact h.p0, by rw [hs _ (by omega) (by omega)]; exact h.i1, fun k hk j hj => by rw [hs _ (by omega) (by omega)]; exact h.nd k hk j hj, fun k hk => by rw [hs _ (by omega) (by omega)]; exact h.nl k hk, by rw [hs _ (by omega) (by omega)]; exact h.n,
   ⟨h1, h.st.2.same (fun o h1 h2 => hs _ (by omega) (by omega))⟩, by rw [hs _ (by omega) (by omega)]; exact h.dp, by rw [hs _ (by omega) (by omega)]; exact h.gr, by rw [hs _ (by omega) (by omega)]; exact h.er, by rw [hs _ (by omega) (by omega)]; exact h.ps⟩
end
set_option maxRecDepth 100000 in
set_option maxHeartbeats 4000000 in
theorem nullOf_any {w : World} {x : Nat} {f : Nat → Value} (n : Nd) (ns : List Nd) (hb : Blk w x 325 f) (hnl : ∀ k, k < ns.length → f (266 + k) = .bool (nul ns k)) (hlen : ns.length ≤ 24) (hok : okNd ns.length n) :
    Calls Tryz.prog 159 #[.pointer (some ⟨x, 0, none⟩), ndV n] w fun e w' => e = .returned (.bool (nullNd (nulL ns) n)) ∧ Fr (fun _ => False) w w' := by
  have F0 := (Fr.refl (fun _ => False) w).alloc (.cells #[.int .i64 n.kind, .int .i64 n.a, .int .i64 n.b, .int .i64 n.mn, .int .i64 n.mx, .int .i64 n.cap, .bool n.lz, .int .u64 (wd n.st 0 : Nat), .int .u64 (wd n.st 1 : Nat), .int .u64 (wd n.st 2 : Nat), .int .u64 (wd n.st 3 : Nat)] 97)
  have hnl' : ∀ k, k < ns.length → w.cell? ⟨x, 266 + k, none⟩ = some (.bool (nul ns k)) := fun k hk => by rw [hb.cell (by omega), hnl k hk]
  have hxl := hb.lt
  obtain ⟨kind, a, b, mn, mx, cap, lz, st⟩ := n
  unfold ndV
  simp only at hok F0 ⊢
  rcases hok with ⟨hk, ha, hb'⟩ | ⟨hk, h1, h2, h3, h4⟩ | ⟨hk, h1, h2, hb'⟩
  · simp only at hk ha hb'
    subst ha hb'
    rcases hk with rfl | rfl | rfl | rfl
    all_goals
      go_enter Tryz.func159, Tryz.ntmps159
      go_wp2_with fail
      go_ret
      exact ⟨rfl, F0⟩
  · simp only at hk h1 h2 h3 h4
    obtain ⟨A, rfl⟩ : ∃ A : Nat, a = A := ⟨a.toNat, by omega⟩
    obtain ⟨B, rfl⟩ : ∃ B : Nat, b = B := ⟨b.toNat, by omega⟩
    have hA : A < 24 := by omega
    have hB : B < 24 := by omega
    have cA := hnl' A (by omega)
    have cB := hnl' B (by omega)
    have e4 : nullNd (nulL ns) ⟨4, A, B, mn, mx, cap, lz, st⟩ = (nul ns A && nul ns B) := rfl
    have e5 : nullNd (nulL ns) ⟨5, A, B, mn, mx, cap, lz, st⟩ = (nul ns A || nul ns B) := rfl
    generalize nul ns A = x1 at *
    generalize nul ns B = x2 at *
    rcases hk with rfl | rfl
    · rw [e4]
      cases x1
      all_goals
        go_enter Tryz.func159, Tryz.ntmps159
        go_wp2_with fail
        refine wp_region_text (by kernel_rfl) (by kernel_rfl) ?_
        go_wp2_with fail
        refine ⟨by kernel_rfl, ?_⟩
        go_wp2_with fail
        go_ret
        exact ⟨by simp, F0.drew⟩
    · rw [e5]
      cases x1
      all_goals
        go_enter Tryz.func159, Tryz.ntmps159
        go_wp2_with fail
        refine wp_region_text (by kernel_rfl) (by kernel_rfl) ?_
        go_wp2_with fail
        refine ⟨by kernel_rfl, ?_⟩
        go_wp2_with fail
        go_ret
        exact ⟨by simp, F0.drew⟩
  · simp only at hk h1 h2 hb'
    subst hb'
    obtain ⟨A, rfl⟩ : ∃ A : Nat, a = A := ⟨a.toNat, by omega⟩
    have hA : A < 24 := by omega
    have cA := hnl' A (by omega)
    have e6 : nullNd (nulL ns) ⟨6, A, -1, mn, mx, cap, lz, st⟩ = (decide (mn = 0) || nul ns A) := rfl
    have e7 : nullNd (nulL ns) ⟨7, A, -1, mn, mx, cap, lz, st⟩ = nul ns A := rfl
    generalize nul ns A = x1 at *
    rcases hk with rfl | rfl
    · rw [e6]
      by_cases h0 : mn = 0
      · subst h0
        go_enter Tryz.func159, Tryz.ntmps159
        go_wp2_with fail
        refine wp_region_text (by kernel_rfl) (by kernel_rfl) ?_
        go_wp2_with fail
        refine ⟨by kernel_rfl, ?_⟩
        go_wp2_with fail
        go_ret
        exact ⟨by simp, F0.drew⟩
      · have t0 : (mn == 0) = false := by simpa using h0
        go_enter Tryz.func159, Tryz.ntmps159
        go_wp2_with fail
        refine wp_region_text (by kernel_rfl) (by kernel_rfl) ?_
        go_wp2_with fail
        refine ⟨by kernel_rfl, ?_⟩
        go_wp2_with fail
        go_ret
        exact ⟨by simp [h0], F0.drew⟩
    · rw [e7]
      go_enter Tryz.func159, Tryz.ntmps159
      go_wp2_with fail
      refine wp_region_text (by kernel_rfl) (by kernel_rfl) ?_
      go_wp2_with fail
      refine ⟨by kernel_rfl, ?_⟩
      go_wp2_with fail
      go_ret
      exact ⟨by simp, F0.drew⟩
end Go.Proofs.Qxb6500283aGreat
