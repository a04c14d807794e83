/- The law: the start; small pieces of the walk. -/
import Derived.Test.Qxb6500277aGreatGL6
import Derived.Laws.IdiomStrings
namespace Go.Proofs.Qxb6500277aGreat
open Go Go.RowKit

def ScrAt (w : World) (a : Option Addr) (n : Nat) : Prop := n = 0 ∨ ∃ b off, a = some ⟨b, off, none⟩ ∧ b < w.heap.size ∧ ∀ i, i < n → ∃ kind A B C S T, (-9223372036854775808 ≤ A ∧ A ≤ 9223372036854775807) ∧
  w.cell? ⟨b, off + i * 6, none⟩ = some (.int .i64 kind) ∧ w.cell? ⟨b, off + i * 6 + 1, none⟩ = some (.int .i64 A) ∧ w.cell? ⟨b, off + i * 6 + 2, none⟩ = some (.int .i64 B) ∧
  w.cell? ⟨b, off + i * 6 + 3, none⟩ = some (.int .i64 C) ∧ w.cell? ⟨b, off + i * 6 + 4, none⟩ = some (.string S) ∧ w.cell? ⟨b, off + i * 6 + 5, none⟩ = some (.string T)
set_option maxRecDepth 100000 in
set_option maxHeartbeats 1000000 in
theorem joinG {w : World} (s t : ByteArray) (hs : s.size ≤ 4097) : Calls Tryz.prog 11 #[.string s, .string t, .int .i64 4096] w fun e w' => (∃ u : ByteArray, e = .returned (.string u) ∧ u.size ≤ 4097) ∧ w' = w := by
  by_cases h1 : s.size = 4097
  · have y1 : decide ((4097 : Int) - (s.size : Int) ≤ 0) = true := decide_eq_true (by omega)
    go_enter Tryz.func11, Tryz.ntmps11
    go_wp2_with fail
    go_ret
    exact ⟨⟨_, rfl, hs⟩, rfl⟩
  · have y1 : decide ((4097 : Int) - (s.size : Int) ≤ 0) = false := decide_eq_false (by omega)
    by_cases h2 : 4097 - s.size < t.size
    · have y2 : decide ((t.size : Int) > (4097 : Int) - (s.size : Int)) = true := decide_eq_true (by omega)
      have y3 : decide ((4097 : Int) - (s.size : Int) < (t.size : Int)) = true := decide_eq_true (by omega)
      go_enter Tryz.func11, Tryz.ntmps11
      go_wp2_with fail
      go_ret
      exact ⟨⟨_, rfl, by simp; omega⟩, rfl⟩
    · have y2 : decide ((t.size : Int) > (4097 : Int) - (s.size : Int)) = false := decide_eq_false (by omega)
      have y3 : decide ((4097 : Int) - (s.size : Int) < (t.size : Int)) = false := decide_eq_false (by omega)
      go_enter Tryz.func11, Tryz.ntmps11
      go_wp2_with fail
      go_ret
      exact ⟨⟨_, rfl, by simp; omega⟩, rfl⟩
theorem KiAt.cutN {w : World} {a : Option Addr} {n k q : Nat} {l : List Int} (h : KiAt w (.slice a n k) l) (hq : q < n) : ∃ b, a = some ⟨b, 0, none⟩ ∧ KiAt w (.slice a q k) (l.take q) ∧ q ≤ k := by
  rcases h with ⟨e, _⟩ | ⟨b, cap, f, e, h1, h2, h3⟩
  · cases e; omega
  · cases e
    refine ⟨b, rfl, .inr ⟨b, k, f, ?_, ?_, h2, fun i hi => ?_⟩, by omega⟩
    · rw [List.length_take, Nat.min_eq_left (by omega)]
    · rw [List.length_take]; omega
    · rw [List.length_take] at hi
      rw [h3 i (by omega), List.getElem_take]
theorem cut128 {ib ni ic : Nat} (h : 128 ≤ ic) (w : World) : (Instr.slice 36 (.slice (some ⟨ib, 0, none⟩) ni ic) none (some (.int .i64 128)) none).run Tryz.prog w = .ok (.slice (some ⟨ib, 0, none⟩) 128 ic) w := by
  rw [run_slice_h w 36 (some ⟨ib, 0, none⟩) ni ic (by kernel_rfl) .i64 128 (by omega) (by omega)]
  have e : (sizeOf (Tryz.prog.elem 36)).run Tryz.prog w = .ok 1 w := by kernel_rfl
  rw [e]
  have h0 : ¬ ic = 0 := by omega
  simp [Result.andThen, sliced, h0, Addr.add]
theorem cut128' {ib ni ic : Nat} (h : 128 ≤ ic) (w : World) : (Instr.sliceAt 36 (.slice (some ⟨ib, 0, none⟩) ni ic) none (some (.int .i64 128)) none).run Tryz.prog w = .ok (.slice (some ⟨ib, 0, none⟩) 128 ic) w := by
  rw [run_sliceAt_slice w 36 _ _ _ _ (by kernel_rfl)]
  exact cut128 h w
/-- The definitional engine runs. -/
theorem Sys.runM {w : World} {g e : Nat} {A : Va} {E : Nat → Prop} {src : ByteArray} {I : List Int} {fuel : Int} {yv : Value} (H : Sys w g e A E) (hy : KiAt w yv I) (hyd : ∀ b, isB yv b → ¬ E b) (hf : fuel ≤ 9223372036854775807) (hf0 : -9223372036854775808 ≤ fuel) :
    Calls Tryz.prog 19 #[.pointer (some ⟨e, 0, none⟩), .string src, yv, .int .i64 fuel] w fun x w' => ∃ er po en rt fu L v E', x = .returned (resV er po en rt v fu) ∧ MAns src I fuel er po en rt fu L ∧ Sys w' g e A E' ∧ (∀ b, E' b → E b ∨ w.heap.size ≤ b) ∧ KiX w' v L ∧ (∀ b, isB v b → w.heap.size ≤ b ∧ ¬ E' b) ∧ Fr E w w' := by
  obtain ⟨R, RM, cv, iv, X, hE, hEl⟩ := H
  refine (runMg X.M hy (fun b hb h => hyd b hb (hE b (.inr (.inl h)))) hf hf0).mono ?_
  rintro x w' ⟨er, po, en, rt, fu, L, v, RM', rfl, hM, G, hR, K, b1, f⟩
  have X' := X.stepM G hR f
  refine ⟨er, po, en, rt, fu, L, v, SysB A R RM' cv iv, rfl, hM, ⟨R, RM', cv, iv, X', fun _ => id, fun b hb => X'.lt hb⟩, fun b hb => ?_, K, fun b hb => ⟨(b1 b hb).1, fun h => ?_⟩, f.mono fun b _ h => hE b (.inr (.inl h))⟩
  · rcases hb with h | h | h
    · exact .inl (hE b (.inl h))
    · exact (hR b h).imp (fun h => hE b (.inr (.inl h))) id
    · exact .inl (hE b (.inr (.inr h)))
  · have o := b1 b hb
    rcases h with h | h | h
    · have := X.G.lt b h; omega
    · exact o.2 h
    · have := X.V.lt h; omega
section
variable {lo : Nat} {w w' w0 w1 w2 w3 w4 wA : World} {g e p : Nat} {A A1 : Va} {bo bb c m : Nat} {inv mv : Value} {Op : Nat → Prop}
theorem LG.check (H : LG lo w g e A bo bb c m inv mv) : Calls Tryz.prog 10 #[.pointer (some ⟨g, 0, none⟩)] w fun e w' => e = .returned (.bool true) ∧ Fr (fun _ => False) w w' := by
  obtain ⟨E, er, po, en, rt, fu, L, v1, v2, v3, nm, f, I, κ, H⟩ := H.ex
  exact H.S.check
theorem LG.slices (H : LG lo w g e A bo bb c m inv mv) : (∃ a n c, inv = .slice a n c ∧ n ≤ 129) ∧ ∃ a n c, mv = .slice a n c ∧ n ≤ 16 := by
  obtain ⟨E, er, po, en, rt, fu, L, v1, v2, v3, nm, f, I, κ, H⟩ := H.ex
  obtain ⟨a, c, e, _⟩ := H.kI.sl
  obtain ⟨a2, c2, e2⟩ := H.mn.os.sl
  exact ⟨⟨a, _, c, e, H.il⟩, ⟨a2, _, c2, e2, H.mn.le⟩⟩
theorem LG.farI (H : LG lo w g e A bo bb c m inv mv) : ∀ b, isB inv b → lo ≤ b := by
  obtain ⟨E, er, po, en, rt, fu, L, v1, v2, v3, nm, f, I, κ, H⟩ := H.ex
  exact fun b hb => (H.kq.lo b (by rw [H.kq.q7 b hb]; decide)).1
theorem Grd.newG (G : Grd w w1 c p A1 A Op) (kA : Fr (fun _ => False) w1 wA) : Calls Tryz.prog 8 #[.pointer (some ⟨c, 0, none⟩), .pointer (some ⟨A1.m, 0, none⟩)] wA fun x w' => x = .returned (.pointer (some ⟨wA.heap.size, 0, none⟩)) ∧ GEx w' wA.heap.size c p A1 (fun b => b = wA.heap.size) Op nilS nilS (hd0 c A1.m) ⟨[], [], [], []⟩ ∧ Fr (fun _ => False) wA w' := by
  obtain ⟨n1, n2, n3, h1, h2, h3, h4, h5⟩ := G.od
  exact newGe (G.ri.frame kA fun _ _ => id) (G.ci.frame kA id) (fun h => by have := h1 c h; omega) (G.rv.frame kA fun _ _ => id) (fun b hb h => by have := h1 b hb; have := h4 b h; omega) (fun h => by have := h4 c h; omega)
theorem LG.init (G : Grd w w1 c p A1 A Op) (BA : Blk wA w1.heap.size 3 (o3 c A1.m A.m)) (kA : Fr (fun _ => False) w1 wA) (sA : wA.heap.size = w1.heap.size + 1) (X2 : GEx w2 wA.heap.size c p A1 (fun b => b = wA.heap.size) Op nilS nilS (hd0 c A1.m) ⟨[], [], [], []⟩) (f2 : Fr (fun _ => False) wA w2) (M3 : MReal w3 e (fun b => w2.heap.size ≤ b ∧ b < w3.heap.size)) (f3 : Fr (fun _ => False) w2 w3) (k4 : Fr (fun _ => False) w3 w4)
    (B4 : Blk w4 w3.heap.size 13 (c13 (.int .i64 0) (.int .i64 0) (.int .i64 0) (.int .i64 0) (.slice none 0 0) (.int .i64 0) (.int .i64 0) (.int .i64 0) (.int .i64 0) (.int .i64 0) (.slice none 0 0) (.int .i64 0) (.slice none 0 0))) : LG w.heap.size w4 wA.heap.size e A w1.heap.size w3.heap.size c A1.m nilS nilS := by
  classical
  obtain ⟨n1, n2, n3, h1, h2, h3, h4, h5⟩ := G.od
  have rl : ∀ b, Op b → b < w1.heap.size := by obtain ⟨_, _, _, _, H⟩ := G.ri; exact H.lt
  have cl := G.ci.lt
  have vl : ∀ b, VQ A1 nilS nilS b → b < w1.heap.size := fun b hb => G.rv.lt hb
  have ul : ∀ b, VQ A nilS nilS b → b < w1.heap.size := fun b hb => G.r2.lt hb
  have z0 := G.fr.size
  have z2 := f2.size
  have z3 := f3.size
  have z4 := k4.size
  have bl := B4.lt
  have gl : wA.heap.size < w2.heap.size := by obtain ⟨_, _, _, _, _, Y⟩ := X2.gx; exact Y.glt
  have k24 := f3.trans k4 fun _ _ => id
  have kA4 := f2.trans k24 fun _ _ => id
  have k14 := kA.trans kA4 fun _ _ => id
  -- the engine's blocks
  have rb : ∀ b, GAll c A1 (fun b => b = wA.heap.size) Op nilS nilS b → (b < w1.heap.size ∧ w.heap.size ≤ b ∧ ¬ VQ A nilS nilS b) ∨ b = wA.heap.size := fun b hb => by
    rcases hb with h | h | h | h
    · exact .inr h
    · have o := h1 b h
      exact .inl ⟨rl b h, o.1, fun e => by have := h5 b e; have := h4 A1.m (.inl (.inl rfl)); omega⟩
    · subst h
      have ha := h4 A1.m (.inl (.inl rfl))
      refine .inl ⟨cl, ?_, fun e => by have := h5 b e; omega⟩
      have hp : Op p := by obtain ⟨_, _, _, _, H⟩ := G.ri; exact H.own.1
      have := h1 p hp
      omega
    · have o := h4 b h
      have hp : Op p := by obtain ⟨_, _, _, _, H⟩ := G.ri; exact H.own.1
      have := h1 p hp
      exact .inl ⟨vl b h, by omega, fun e => by have := h5 b e; omega⟩
  have ub : ∀ b, VQ A nilS nilS b → w.heap.size ≤ b ∧ b < w1.heap.size := fun b hb => by
    have := h5 b hb
    have ha := h4 A1.m (.inl (.inl rfl))
    have hp : Op p := by obtain ⟨_, _, _, _, H⟩ := G.ri; exact H.own.1
    have := h1 p hp
    exact ⟨by omega, ul b hb⟩
  have S4 : SysX w4 wA.heap.size e A (GAll c A1 (fun b => b = wA.heap.size) Op nilS nilS) (fun b => w2.heap.size ≤ b ∧ b < w3.heap.size) nilS nilS := by
    refine ⟨⟨c, p, A1, _, Op, nilS, nilS, _, _, X2.frame k24 fun _ _ => id, fun _ => id, fun b hb => ?_⟩, M3.frame k4 fun _ _ => id, G.r2.frame k14 fun _ _ => id, fun b hb => ?_, fun b hb h => ?_⟩
    · rcases rb b hb with h | h <;> omega
    · rcases rb b hb with h | h
      · exact ⟨fun e => by have : w2.heap.size ≤ b := e.1; omega, h.2.2⟩
      · exact ⟨fun e => by have : w2.heap.size ≤ b := e.1; omega, fun e => by have := ul b e; omega⟩
    · have : w2.heap.size ≤ b := hb.1
      have := ul b h
      omega
  have eb : ∀ b, SysB A (GAll c A1 (fun b => b = wA.heap.size) Op nilS nilS) (fun b => w2.heap.size ≤ b ∧ b < w3.heap.size) nilS nilS b → w.heap.size ≤ b ∧ b ≠ w1.heap.size ∧ b < w3.heap.size := fun b hb => by
    rcases hb with h | h | h
    · rcases rb b h with h | h
      · exact ⟨h.2.1, by omega, by omega⟩
      · exact ⟨by omega, by omega, by omega⟩
    · have o1 : w2.heap.size ≤ b := h.1
      have o2 : b < w3.heap.size := h.2
      exact ⟨by omega, by omega, o2⟩
    · have := ub b h
      exact ⟨this.1, by omega, by omega⟩
  obtain ⟨E, hE⟩ : ∃ E, E = SysB A (GAll c A1 (fun b => b = wA.heap.size) Op nilS nilS) (fun b => w2.heap.size ≤ b ∧ b < w3.heap.size) nilS nilS := ⟨_, rfl⟩
  rw [← hE] at eb
  refine ⟨⟨E, 0, 0, 0, 0, 0, [], nilS, nilS, nilS, 0, fun _ => nilS, [], fun b => if E b then 1 else if b = w1.heap.size ∨ b = w3.heap.size then 8 else 0, ⟨_, _, _, _, S4, fun b hb => by rw [hE]; exact hb, fun b hb => by have := eb b hb; omega⟩, .inl ⟨rfl, rfl⟩, Nat.zero_le _, BA.frame kA4 id, B4, .inl ⟨rfl, rfl⟩, .inl ⟨rfl, rfl⟩, ⟨_, _, _, rfl⟩, Nat.zero_le _, ⟨Nat.zero_le _, .inl ⟨rfl, rfl⟩, fun j hj => absurd hj (Nat.not_lt_zero _)⟩, ⟨fun b hb => if_pos hb, fun b hb => absurd hb (nil_noB b), fun b hb => absurd hb (nil_noB b), fun b hb => absurd hb (nil_noB b), fun j hj => absurd hj (Nat.not_lt_zero _), fun b hb => absurd hb (nil_noB b), fun b hb => ?_, fun b hb => ?_⟩, by omega⟩⟩
  · show (if E b then 1 else if b = w1.heap.size ∨ b = w3.heap.size then 8 else 0) = 8
    rw [if_neg (fun h => by have := eb b h; omega), if_pos hb]
  · by_cases g1 : E b
    · have := eb b g1; omega
    by_cases g2 : b = w1.heap.size ∨ b = w3.heap.size
    · omega
    have hb' : (if E b then 1 else if b = w1.heap.size ∨ b = w3.heap.size then 8 else 0) ≠ 0 := hb
    rw [if_neg g1, if_neg g2] at hb'
    exact absurd rfl hb'
end
end Go.Proofs.Qxb6500277aGreat
