/- The model machine in memory: one colour a block. -/
import Derived.Test.Qxb6500281aGreatVR35
import Derived.Test.Qxb6500281aGreatKM10
namespace Go.Proofs.Qxb6500281aGreat
open Go Go.RowKit

def rC (hm : Nat) (cv iv ov fv : Value) (V : Vs) (o : Nat) : Value := match o with | 0 => cv | 1 => iv | 2 => .int .i64 (V.ip : Nat) | 3 => .int .i64 V.fuel | 4 => ov | 5 => fv | 6 => .int .i64 (V.pc : Nat) | 7 => .pointer (some ⟨hm, 0, none⟩) | 8 => .int .i64 V.en | 9 => .int .i64 V.rt | 10 => .int .i64 V.steps | _ => .int .i64 (V.most : Nat)
/-- Frame i's five cells. -/
structure FC (w : World) (g : Nat → Value) (i : Nat) (f : Fm) : Prop where
  ret : g (5 * i) = .int .i64 (f.ret : Nat)
  loc : KiAt w (g (5 * i + 1)) f.loc
  ops : KiAt w (g (5 * i + 2)) f.ops
  rb : g (5 * i + 3) = .int .i64 (f.rb : Nat)
  lr : g (5 * i + 4) = .int .i64 (f.lr : Nat)
def FL (w : World) (g : Nat → Value) : List Fm → Prop
  | [] => True
  | f :: r => FC w g r.length f ∧ FL w g r
def FA (w : World) (fv : Value) (n : Nat) (g : Nat → Value) : Prop := (fv = .slice none 0 0 ∧ n = 0) ∨ ∃ b cap, fv = .slice (some ⟨b, 0, none⟩) n cap ∧ n ≤ cap ∧ Blk w b (cap * 5) g
/-- Where the model machine lies: the blocks in P, each with its colour. -/
structure MR (w : World) (rn hm : Nat) (C : List Nat) (I : List Int) (V : Vs) (M : MS) (col : Nat → Nat) (P : Nat → Prop) (cv iv ov fv : Value) (g : Nat → Value) : Prop where
  blk : Blk w rn 12 (rC hm cv iv ov fv V)
  code : BAt w cv C
  inp : KiAt w iv I
  out : KiAt w ov V.out
  fs : FA w fv V.fs.length g
  fr : FL w g V.fs
  hp : ∃ OH, MM w hm M OH ∧ ∀ c, OH c → col c = 5 ∧ P c
  crn : col rn = 0 ∧ P rn
  cfs : ∀ b, isB fv b → col b = 1 ∧ P b
  ccv : ∀ b, isB cv b → col b = 2 ∧ P b
  civ : ∀ b, isB iv b → col b = 3 ∧ P b
  cov : ∀ b, isB ov b → col b = 4 ∧ P b
  clo : ∀ i, i < V.fs.length → ∀ b, isB (g (5 * i + 1)) b → col b = 6 + 2 * i ∧ P b
  cop : ∀ i, i < V.fs.length → ∀ b, isB (g (5 * i + 2)) b → col b = 7 + 2 * i ∧ P b
  lt : ∀ c, P c → c < w.heap.size
  cl : C.length ≤ 4096
  cb : ∀ i, byteAt C i < 256
  il : I.length ≤ 128
section
variable {w w' w1 : World} {rn hm : Nat} {C : List Nat} {I : List Int} {V V' : Vs} {M M' : MS} {col col' : Nat → Nat} {P P' F : Nat → Prop} {cv iv ov fv : Value} {g : Nat → Value} {f : Fm} {r : List Fm}
theorem FA.frame {n : Nat} (h : FA w fv n g) (k : Fr F w w') (hb : ∀ b, isB fv b → ¬ F b) : FA w' fv n g := by
  rcases h with h | ⟨b, cap, rfl, h1, h2⟩
  · exact .inl h
  · exact .inr ⟨b, cap, rfl, h1, h2.frame k (hb b ⟨_, _, rfl⟩)⟩
theorem FA.bk {n b : Nat} (h : FA w fv n g) (hb : isB fv b) : b < w.heap.size := by
  rcases h with ⟨rfl, _⟩ | ⟨b', cap, rfl, h1, h2⟩
  · exact absurd hb (nil_noB b)
  · rw [isB_one hb]; exact h2.lt
theorem FL.frame : ∀ (fs : List Fm), FL w g fs → Fr F w w' → (∀ i, i < fs.length → ∀ b, isB (g (5 * i + 1)) b ∨ isB (g (5 * i + 2)) b → ¬ F b) → FL w' g fs
  | [], _, _, _ => trivial
  | f :: r, ⟨h1, h2⟩, k, hb => ⟨⟨h1.ret, h1.loc.frame k (fun b h => hb r.length (by simp) b (.inl h)), h1.ops.frame k (fun b h => hb r.length (by simp) b (.inr h)), h1.rb, h1.lr⟩, FL.frame r h2 k (fun i hi => hb i (by simp; omega))⟩
theorem FL.congr {g' : Nat → Value} : ∀ (fs : List Fm), FL w g fs → (∀ o, o < 5 * fs.length → g' o = g o) → FL w g' fs
  | [], _, _ => trivial
  | f :: r, ⟨h1, h2⟩, e => by
    have hl : (f :: r).length = r.length + 1 := rfl
    refine ⟨⟨?_, ?_, ?_, ?_, ?_⟩, FL.congr r h2 (fun o ho => e o (by omega))⟩
    · rw [e _ (by omega)]; exact h1.ret
    · rw [e _ (by omega)]; exact h1.loc
    · rw [e _ (by omega)]; exact h1.ops
    · rw [e _ (by omega)]; exact h1.rb
    · rw [e _ (by omega)]; exact h1.lr
/-- Blocks of one colour turn; the others stand. -/
theorem MR.frame (H : MR w rn hm C I V M col P cv iv ov fv g) (k : Fr F w w') (hF : ∀ c, P c → ¬ F c) : MR w' rn hm C I V M col P cv iv ov fv g := by
  obtain ⟨OH, h1, h2⟩ := H.hp
  exact ⟨H.blk.frame k (hF _ H.crn.2), H.code.frame k (fun b hb => hF b (H.ccv b hb).2), H.inp.frame k (fun b hb => hF b (H.civ b hb).2), H.out.frame k (fun b hb => hF b (H.cov b hb).2), H.fs.frame k (fun b hb => hF b (H.cfs b hb).2),
    H.fr.frame _ k (fun i hi b hb => hb.elim (fun h => hF b (H.clo i hi b h).2) (fun h => hF b (H.cop i hi b h).2)), ⟨OH, h1.frame k (fun c hc => hF c (h2 c hc).2), h2⟩, H.crn, H.cfs, H.ccv, H.civ, H.cov, H.clo, H.cop, fun c hc => Nat.lt_of_lt_of_le (H.lt c hc) k.size, H.cl, H.cb, H.il⟩
theorem MR.same (H : MR w rn hm C I V M col P cv iv ov fv g) (k : Fr (fun _ => False) w w') : MR w' rn hm C I V M col P cv iv ov fv g := H.frame k (fun _ _ h => h)
/-- P grows. -/
theorem MR.up (H : MR w rn hm C I V M col P cv iv ov fv g) (h1 : ∀ c, P c → P' c) (h2 : ∀ c, P' c → c < w.heap.size) : MR w rn hm C I V M col P' cv iv ov fv g := by
  obtain ⟨OH, k1, k2⟩ := H.hp
  exact ⟨H.blk, H.code, H.inp, H.out, H.fs, H.fr, ⟨OH, k1, fun c hc => ⟨(k2 c hc).1, h1 c (k2 c hc).2⟩⟩, ⟨H.crn.1, h1 _ H.crn.2⟩, fun b hb => ⟨(H.cfs b hb).1, h1 b (H.cfs b hb).2⟩, fun b hb => ⟨(H.ccv b hb).1, h1 b (H.ccv b hb).2⟩, fun b hb => ⟨(H.civ b hb).1, h1 b (H.civ b hb).2⟩, fun b hb => ⟨(H.cov b hb).1, h1 b (H.cov b hb).2⟩, fun i hi b hb => ⟨(H.clo i hi b hb).1, h1 b (H.clo i hi b hb).2⟩, fun i hi b hb => ⟨(H.cop i hi b hb).1, h1 b (H.cop i hi b hb).2⟩, h2, H.cl, H.cb, H.il⟩
/-- Cells of the run's own block turn. -/
theorem MR.turn (H : MR w rn hm C I V M col P cv iv ov fv g) (k : Fr (fun c => c = rn) w w') (hb : Blk w' rn 12 (rC hm cv iv ov fv V')) (e1 : V'.fs = V.fs) (e2 : V'.out = V.out) : MR w' rn hm C I V' M col P cv iv ov fv g := by
  obtain ⟨OH, h1, h2⟩ := H.hp
  have z : ∀ {b n : Nat}, col b = n → n ≠ 0 → ¬ b = rn := fun h1 h2 e => h2 (by rw [← h1, e]; exact H.crn.1)
  refine ⟨hb, H.code.frame k (fun b hb => z (H.ccv b hb).1 (by omega)), H.inp.frame k (fun b hb => z (H.civ b hb).1 (by omega)), by rw [e2]; exact H.out.frame k (fun b hb => z (H.cov b hb).1 (by omega)), by rw [e1]; exact H.fs.frame k (fun b hb => z (H.cfs b hb).1 (by omega)), ?_, ⟨OH, h1.frame k (fun c hc => z (h2 c hc).1 (by omega)), h2⟩, H.crn, H.cfs, H.ccv, H.civ, H.cov, by rw [e1]; exact H.clo, by rw [e1]; exact H.cop, fun c hc => Nat.lt_of_lt_of_le (H.lt c hc) k.size, H.cl, H.cb, H.il⟩
  rw [e1]
  exact H.fr.frame _ k (fun i hi b hb => hb.elim (fun h => z (H.clo i hi b h).1 (by omega)) (fun h => z (H.cop i hi b h).1 (by omega)))
/-- The new blocks get colour q. -/
def cq (w : World) (col : Nat → Nat) (q : Nat) (c : Nat) : Nat := if w.heap.size ≤ c then q else col c
theorem cq_old {q c : Nat} (h : c < w.heap.size) : cq w col q c = col c := by unfold cq; rw [if_neg (by omega)]
theorem cq_new {q c : Nat} (h : w.heap.size ≤ c) : cq w col q c = q := by unfold cq; rw [if_pos h]
/-- The same, with another colouring of what is new. -/
theorem MR.recol (H : MR w rn hm C I V M col P cv iv ov fv g) (q : Nat) : MR w rn hm C I V M (cq w col q) P cv iv ov fv g := by
  obtain ⟨OH, h1, h2⟩ := H.hp
  have z : ∀ {b n : Nat}, col b = n ∧ P b → cq w col q b = n ∧ P b := fun h => ⟨by rw [cq_old (H.lt _ h.2)]; exact h.1, h.2⟩
  exact ⟨H.blk, H.code, H.inp, H.out, H.fs, H.fr, ⟨OH, h1, fun c hc => z (h2 c hc)⟩, z H.crn, fun b hb => z (H.cfs b hb), fun b hb => z (H.ccv b hb), fun b hb => z (H.civ b hb), fun b hb => z (H.cov b hb), fun i hi b hb => z (H.clo i hi b hb), fun i hi b hb => z (H.cop i hi b hb), H.lt, H.cl, H.cb, H.il⟩
/-- The heap turns. -/
theorem MR.heapT (H : MR w rn hm C I V M col P cv iv ov fv g) : ∃ OH, MM w hm M OH ∧ (∀ c, OH c → P c) ∧ ∀ w' M', MM w' hm M' (Gw OH w w') → Fr OH w w' → MR w' rn hm C I V M' (cq w col 5) (Gw P w w') cv iv ov fv g := by
  obtain ⟨OH, h1, h2⟩ := H.hp
  refine ⟨OH, h1, fun c hc => (h2 c hc).2, fun w' M' hm' k => ?_⟩
  have G := H.recol 5
  have z : ∀ {b n : Nat}, cq w col 5 b = n ∧ P b → n ≠ 5 → ¬ OH b := fun h hn e => hn (by rw [← h.1, cq_old (H.lt _ h.2)]; exact (h2 _ e).1)
  have y : ∀ {b n : Nat}, cq w col 5 b = n ∧ P b → cq w col 5 b = n ∧ Gw P w w' b := fun h => ⟨h.1, .inl h.2⟩
  exact ⟨G.blk.frame k (z G.crn (by omega)), G.code.frame k (fun b hb => z (G.ccv b hb) (by omega)), G.inp.frame k (fun b hb => z (G.civ b hb) (by omega)), G.out.frame k (fun b hb => z (G.cov b hb) (by omega)), G.fs.frame k (fun b hb => z (G.cfs b hb) (by omega)),
    G.fr.frame _ k (fun i hi b hb => hb.elim (fun h => z (G.clo i hi b h) (by omega)) (fun h => z (G.cop i hi b h) (by omega))), ⟨_, hm', fun c hc => hc.elim (fun h => ⟨by rw [cq_old (H.lt _ (h2 c h).2)]; exact (h2 c h).1, .inl (h2 c h).2⟩) (fun h => ⟨cq_new h.1, .inr h⟩)⟩,
    y G.crn, fun b hb => y (G.cfs b hb), fun b hb => y (G.ccv b hb), fun b hb => y (G.civ b hb), fun b hb => y (G.cov b hb), fun i hi b hb => y (G.clo i hi b hb), fun i hi b hb => y (G.cop i hi b hb), fun c hc => hc.elim (fun h => Nat.lt_of_lt_of_le (H.lt c h) k.size) (fun h => h.2), H.cl, H.cb, H.il⟩
/-- The top frame: its cells. -/
theorem MR.top (H : MR w rn hm C I V M col P cv iv ov fv g) (hf : V.fs = f :: r) : FC w g r.length f := by
  have := H.fr
  rw [hf] at this
  exact this.1
theorem MR.fsl (H : MR w rn hm C I V M col P cv iv ov fv g) (hf : V.fs = f :: r) : ∃ b cap, fv = .slice (some ⟨b, 0, none⟩) (r.length + 1) cap ∧ r.length + 1 ≤ cap ∧ Blk w b (cap * 5) g := by
  have := H.fs
  rw [hf] at this
  rcases this with ⟨_, h⟩ | h
  · simp at h
  · exact h
end
end Go.Proofs.Qxb6500281aGreat
