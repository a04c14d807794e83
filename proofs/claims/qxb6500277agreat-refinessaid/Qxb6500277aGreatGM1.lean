/- The definitional interpreter's run in memory. -/
import Derived.Test.Qxb6500277aGreatGP26
import Derived.Test.Qxb6500277aGreatGE9
namespace Go.Proofs.Qxb6500277aGreat
open Go Go.RowKit

/-- What stands during a run: the program, the lists of its answer, the run's block, its heap. -/
structure Gmx where
  P0 : Pg
  ns : List Nd
  rs : List FR
  r : Nat
  hm : Nat
  v : Value
  t : Value
  rf : Value
  f : Value
  iv : Value
  root : Int
  main : Int
def gmC (G : Gmx) (ip fu us en : Int) (ov : Value) (o : Nat) : Value :=
  if o < 10 then c10 G.v (.int .i64 G.root) (.int .i64 0) (.int .i64 0) G.t G.rf G.f (.int .i64 G.main) (.int .i64 0) (.int .i64 0) o
  else match o with
    | 10 => G.v
    | 11 => G.iv
    | 12 => .int .i64 ip
    | 13 => .int .i64 fu
    | 14 => ov
    | 15 => .int .i64 us
    | 16 => .pointer (some ⟨G.hm, 0, none⟩)
    | _ => .int .i64 en
def stB (G : Gmx) (b : Nat) : Prop := inB4 G.v G.t G.rf G.f b ∨ isB G.iv b
/-- The run in memory: Q holds its own blocks. -/
structure RMv (w : World) (G : Gmx) (s : Ss) (en : Int) (Q : Nat → Prop) (ov : Value) (O : Nat → Prop) : Prop where
  blk : Blk w G.r 18 (gmC G (s.ip : Nat) s.fuel s.us en ov)
  out : KiAt w ov s.out
  hp : MM w G.hm s.M O
  qr : Q G.r
  qo : ∀ b, O b → Q b ∧ b ≠ G.r
  qv : ∀ b, isB ov b → Q b ∧ b ≠ G.r ∧ ¬ O b
  lt : ∀ b, Q b → b < w.heap.size
  an : AnsM w G.v G.t G.rf G.f G.ns G.P0.ty G.P0.rf G.rs
  inp : KiAt w G.iv G.P0.inp
  sb : ∀ b, stB G b → ¬ Q b ∧ b < w.heap.size
def RM (w : World) (G : Gmx) (s : Ss) (en : Int) (Q : Nat → Prop) : Prop := ∃ ov O, RMv w G s en Q ov O
section
variable {w w' w1 w2 : World} {G : Gmx} {s s' t : Ss} {en : Int} {Q Q' F O : Nat → Prop} {ov : Value}
theorem RMv.x (H : RMv w G s en Q ov O) : RM w G s en Q := ⟨ov, O, H⟩
theorem RMv.frame (H : RMv w G s en Q ov O) (k : Fr F w w') (hF : ∀ b, (Q b ∨ stB G b) → ¬ F b) : RMv w' G s en Q ov O :=
  ⟨H.blk.frame k (hF _ (.inl H.qr)), H.out.frame k fun b hb => hF b (.inl (H.qv b hb).1), H.hp.frame k fun b hb => hF b (.inl (H.qo b hb).1), H.qr, H.qo, H.qv, fun b hb => Nat.lt_of_lt_of_le (H.lt b hb) k.size, H.an.frame k fun b hb => hF b (.inr (.inl hb)), H.inp.frame k fun b hb => hF b (.inr (.inr hb)), fun b hb => ⟨(H.sb b hb).1, Nat.lt_of_lt_of_le (H.sb b hb).2 k.size⟩⟩
theorem RMv.same (H : RMv w G s en Q ov O) (k : Fr (fun _ => False) w w') : RMv w' G s en Q ov O := H.frame k fun _ _ => id
theorem RM.same (H : RM w G s en Q) (k : Fr (fun _ => False) w w') : RM w' G s en Q := by
  obtain ⟨ov, O, H⟩ := H
  exact ⟨ov, O, H.same k⟩
theorem RMv.up (H : RMv w G s en Q ov O) (h1 : ∀ b, Q b → Q' b) (h2 : ∀ b, Q' b → b < w.heap.size) (h3 : ∀ b, stB G b → ¬ Q' b) : RMv w G s en Q' ov O :=
  ⟨H.blk, H.out, H.hp, h1 _ H.qr, fun b hb => ⟨h1 _ (H.qo b hb).1, (H.qo b hb).2⟩, fun b hb => ⟨h1 _ (H.qv b hb).1, (H.qv b hb).2⟩, h2, H.an, H.inp, fun b hb => ⟨h3 b hb, (H.sb b hb).2⟩⟩
theorem RM.up (H : RM w G s en Q) (h1 : ∀ b, Q b → Q' b) (h2 : ∀ b, Q' b → b < w.heap.size) (h3 : ∀ b, stB G b → ¬ Q' b) : RM w G s en Q' := by
  obtain ⟨ov, O, H⟩ := H
  exact ⟨ov, O, H.up h1 h2 h3⟩
theorem RM.lt (H : RM w G s en Q) : ∀ b, Q b → b < w.heap.size := by
  obtain ⟨ov, O, H⟩ := H
  exact H.lt
theorem RM.sb (H : RM w G s en Q) : ∀ b, stB G b → ¬ Q b ∧ b < w.heap.size := by
  obtain ⟨ov, O, H⟩ := H
  exact H.sb
theorem RMv.rlt (H : RMv w G s en Q ov O) : G.r < w.heap.size := H.blk.lt
theorem RMv.cl (H : RMv w G s en Q ov O) {o : Nat} (ho : o < 18) : w.cell? ⟨G.r, o, none⟩ = some (gmC G (s.ip : Nat) s.fuel s.us en ov o) := H.blk.cell ho
theorem RMv.c10 (H : RMv w G s en Q ov O) : w.cell? ⟨G.r, 10, none⟩ = some G.v := H.cl (o := 10) (by omega)
theorem RMv.c11 (H : RMv w G s en Q ov O) : w.cell? ⟨G.r, 11, none⟩ = some G.iv := H.cl (o := 11) (by omega)
theorem RMv.c12 (H : RMv w G s en Q ov O) : w.cell? ⟨G.r, 12, none⟩ = some (.int .i64 (s.ip : Nat)) := H.cl (o := 12) (by omega)
theorem RMv.c13 (H : RMv w G s en Q ov O) : w.cell? ⟨G.r, 13, none⟩ = some (.int .i64 s.fuel) := H.cl (o := 13) (by omega)
theorem RMv.c14 (H : RMv w G s en Q ov O) : w.cell? ⟨G.r, 14, none⟩ = some ov := H.cl (o := 14) (by omega)
theorem RMv.c15 (H : RMv w G s en Q ov O) : w.cell? ⟨G.r, 15, none⟩ = some (.int .i64 s.us) := H.cl (o := 15) (by omega)
theorem RMv.c16 (H : RMv w G s en Q ov O) : w.cell? ⟨G.r, 16, none⟩ = some (.pointer (some ⟨G.hm, 0, none⟩)) := H.cl (o := 16) (by omega)
theorem RMv.c17 (H : RMv w G s en Q ov O) : w.cell? ⟨G.r, 17, none⟩ = some (.int .i64 en) := H.cl (o := 17) (by omega)
theorem RMv.c4 (H : RMv w G s en Q ov O) : w.cell? ⟨G.r, 4, none⟩ = some G.t := H.cl (o := 4) (by omega)
theorem RMv.c5 (H : RMv w G s en Q ov O) : w.cell? ⟨G.r, 5, none⟩ = some G.rf := H.cl (o := 5) (by omega)
theorem RMv.c6 (H : RMv w G s en Q ov O) : w.cell? ⟨G.r, 6, none⟩ = some G.f := H.cl (o := 6) (by omega)
/-- A cell of the run's own block is written. -/
theorem RMv.put (H : RMv w G s en Q ov O) {o : Nat} {x : Value} {en' : Int} (hM : s'.M = s.M) (ho : s'.out = s.out) (hc : ∀ i, i < 18 → upd (gmC G (s.ip : Nat) s.fuel s.us en ov) o x i = gmC G (s'.ip : Nat) s'.fuel s'.us en' ov i) : RMv (w.setCell ⟨G.r, o, none⟩ x) G s' en' Q ov O := by
  have k := (Fr.refl (fun b => b = G.r) w).setC G.r o x fun _ => rfl
  refine ⟨(H.blk.set o x).congr hc, ?_, ?_, H.qr, H.qo, H.qv, fun b hb => Nat.lt_of_lt_of_le (H.lt b hb) k.size, H.an.frame k fun b hb e => (H.sb b (.inl hb)).1 (e ▸ H.qr), H.inp.frame k fun b hb e => (H.sb b (.inr hb)).1 (e ▸ H.qr), fun b hb => ⟨(H.sb b hb).1, Nat.lt_of_lt_of_le (H.sb b hb).2 k.size⟩⟩
  · rw [ho]; exact H.out.frame k fun b hb => (H.qv b hb).2.1
  · rw [hM]; exact H.hp.frame k fun b hb => (H.qo b hb).2
theorem RMv.setU (H : RMv w G s en Q ov O) (u : Int) : RMv (w.setCell ⟨G.r, 15, none⟩ (.int .i64 u)) G { s with us := u } en Q ov O := H.put (s' := { s with us := u }) rfl rfl fun i hi => by
  unfold upd gmC
  by_cases e : i = 15
  · subst e; rfl
  · rw [if_neg e]
    by_cases h : i < 10
    · rw [if_pos h, if_pos h]
    · rw [if_neg h, if_neg h]
      obtain rfl | rfl | rfl | rfl | rfl | rfl | rfl : i = 10 ∨ i = 11 ∨ i = 12 ∨ i = 13 ∨ i = 14 ∨ i = 16 ∨ i = 17 := by omega
      all_goals rfl
theorem RMv.setE (H : RMv w G s en Q ov O) (e' : Int) : RMv (w.setCell ⟨G.r, 17, none⟩ (.int .i64 e')) G s e' Q ov O := H.put rfl rfl fun i hi => by
  unfold upd gmC
  by_cases e : i = 17
  · subst e; rfl
  · rw [if_neg e]
    by_cases h : i < 10
    · rw [if_pos h, if_pos h]
    · rw [if_neg h, if_neg h]
      obtain rfl | rfl | rfl | rfl | rfl | rfl | rfl : i = 10 ∨ i = 11 ∨ i = 12 ∨ i = 13 ∨ i = 14 ∨ i = 15 ∨ i = 16 := by omega
      all_goals rfl
theorem RMv.setF (H : RMv w G s en Q ov O) (u : Int) : RMv (w.setCell ⟨G.r, 13, none⟩ (.int .i64 u)) G { s with fuel := u } en Q ov O := H.put (s' := { s with fuel := u }) rfl rfl fun i hi => by
  unfold upd gmC
  by_cases e : i = 13
  · subst e; rfl
  · rw [if_neg e]
    by_cases h : i < 10
    · rw [if_pos h, if_pos h]
    · rw [if_neg h, if_neg h]
      obtain rfl | rfl | rfl | rfl | rfl | rfl | rfl : i = 10 ∨ i = 11 ∨ i = 12 ∨ i = 14 ∨ i = 15 ∨ i = 16 ∨ i = 17 := by omega
      all_goals rfl
theorem RMv.setI (H : RMv w G s en Q ov O) (u : Nat) : RMv (w.setCell ⟨G.r, 12, none⟩ (.int .i64 (u : Nat))) G { s with ip := u } en Q ov O := H.put (s' := { s with ip := u }) rfl rfl fun i hi => by
  unfold upd gmC
  by_cases e : i = 12
  · subst e; rfl
  · rw [if_neg e]
    by_cases h : i < 10
    · rw [if_pos h, if_pos h]
    · rw [if_neg h, if_neg h]
      obtain rfl | rfl | rfl | rfl | rfl | rfl | rfl : i = 10 ∨ i = 11 ∨ i = 13 ∨ i = 14 ∨ i = 15 ∨ i = 16 ∨ i = 17 := by omega
      all_goals rfl
/-- What is said of the state. -/
theorem RMv.re (H : RMv w G s en Q ov O) (h1 : s'.ip = s.ip) (h2 : s'.fuel = s.fuel) (h3 : s'.us = s.us) (h4 : s'.M = s.M) (h5 : s'.out = s.out) : RMv w G s' en Q ov O :=
  ⟨by rw [h1, h2, h3]; exact H.blk, by rw [h5]; exact H.out, by rw [h4]; exact H.hp, H.qr, H.qo, H.qv, H.lt, H.an, H.inp, H.sb⟩
theorem RM.re (H : RM w G s en Q) (h1 : s'.ip = s.ip) (h2 : s'.fuel = s.fuel) (h3 : s'.us = s.us) (h4 : s'.M = s.M) (h5 : s'.out = s.out) : RM w G s' en Q := by
  obtain ⟨ov, O, H⟩ := H
  exact ⟨ov, O, H.re h1 h2 h3 h4 h5⟩
theorem RMv.glt (H : RMv w G s en Q ov O) (hs : w.heap.size ≤ w'.heap.size) : ∀ b, Gw Q w w' b → b < w'.heap.size := fun b hb => hb.elim (fun h => Nat.lt_of_lt_of_le (H.lt b h) hs) (fun h => h.2)
theorem RMv.gsb (H : RMv w G s en Q ov O) : ∀ b, stB G b → ¬ Gw Q w w' b := fun b hb h => h.elim (H.sb b hb).1 fun h => by have := (H.sb b hb).2; have := h.1; omega
/-- The heap has been called. -/
theorem RMv.heap {M : MS} (H : RMv w G s en Q ov O) (h : MM w' G.hm M (Gw O w w')) (k : Fr O w w') : RMv w' G { s with M := M } en (Gw Q w w') ov (Gw O w w') := by
  have hr := H.rlt
  refine ⟨H.blk.frame k fun e => (H.qo _ e).2 rfl, H.out.frame k fun b hb e => (H.qv b hb).2.2 e, h, .inl H.qr, fun b hb => ?_, fun b hb => ?_, H.glt k.size, H.an.frame k fun b hb e => (H.sb b (.inl hb)).1 (H.qo b e).1, H.inp.frame k fun b hb e => (H.sb b (.inr hb)).1 (H.qo b e).1, fun b hb => ⟨H.gsb b hb, Nat.lt_of_lt_of_le (H.sb b hb).2 k.size⟩⟩
  · rcases hb with h1 | h1
    · exact ⟨.inl (H.qo b h1).1, (H.qo b h1).2⟩
    · exact ⟨.inr h1, by have := h1.1; omega⟩
  · have q := H.qv b hb
    refine ⟨.inl q.1, q.2.1, fun h1 => h1.elim q.2.2 fun h1 => ?_⟩
    have := H.lt b q.1
    have := h1.1
    omega
theorem RMv.hfr (H : RMv w G s en Q ov O) (k : Fr O w w') : Fr Q w w' := k.mono fun b _ h => (H.qo b h).1
end
/-- What stands of a state that goes on. -/
structure SB (G : Gmx) (s : Ss) : Prop where
  u0 : 0 ≤ s.us
  u48 : s.us ≤ 48
  r24 : s.M.rt.length ≤ 24
  mi : MInv s.M
  ou : s.out.length ≤ 1024
  f1 : s.fuel ≤ 9223372036854775807
  f0 : -9223372036854775808 ≤ s.fuel
  ip : s.ip ≤ G.P0.inp.length
  il : G.P0.inp.length ≤ 128
/-- How a state turns: words and roots more than before. -/
structure Rl (du dr : Nat) (s t : Ss) : Prop where
  rb : t.rb = s.rb
  ll : t.loc.length = s.loc.length
  us : t.us = s.us + du
  rt : t.M.rt.length = s.M.rt.length + dr
  fu : t.fuel ≤ s.fuel
def duT (t : Int) : Nat := if 2 ≤ t then 0 else 1
def drT (t : Int) : Nat := if 2 ≤ t then 1 else 0
section
variable {P : Pg} {q : Ri} {s t : Ss} {r : Ro} {v e : Int}
theorem EvI.ret (r : Ro) : EvI P (.ret r) r := ⟨0, fun n _ => by cases n <;> rfl⟩
theorem EvI.ok {k : Int → Ss → Mi} (h : EvI P (bodyI P q s) (.ok v t)) (h2 : EvI P (k v t) r) : EvI P (.call q s k) r := by
  obtain ⟨N, h⟩ := h
  obtain ⟨N2, h2⟩ := h2
  refine ⟨N + N2 + 1, fun n hn => ?_⟩
  obtain ⟨m, rfl⟩ : ∃ m, n = m + 1 := ⟨n - 1, by omega⟩
  simp only [runI]
  rw [h m (by omega)]
  exact h2 m (by omega)
theorem EvI.rt {k : Int → Ss → Mi} (h : EvI P (bodyI P q s) (.rt v t)) : EvI P (.call q s k) (.rt v t) := by
  obtain ⟨N, h⟩ := h
  refine ⟨N + 1, fun n hn => ?_⟩
  obtain ⟨m, rfl⟩ : ∃ m, n = m + 1 := ⟨n - 1, by omega⟩
  simp only [runI]
  rw [h m (by omega)]
theorem EvI.stop {k : Int → Ss → Mi} (h : EvI P (bodyI P q s) (.stop e t)) : EvI P (.call q s k) (.stop e t) := by
  obtain ⟨N, h⟩ := h
  refine ⟨N + 1, fun n hn => ?_⟩
  obtain ⟨m, rfl⟩ : ∃ m, n = m + 1 := ⟨n - 1, by omega⟩
  simp only [runI]
  rw [h m (by omega)]
theorem EvI.tok {k : Bool → Int → Ss → Mi} (h : EvI P (bodyI P q s) (.ok v t)) (h2 : EvI P (k false v t) r) : EvI P (.tri q s k) r := by
  obtain ⟨N, h⟩ := h
  obtain ⟨N2, h2⟩ := h2
  refine ⟨N + N2 + 1, fun n hn => ?_⟩
  obtain ⟨m, rfl⟩ : ∃ m, n = m + 1 := ⟨n - 1, by omega⟩
  simp only [runI]
  rw [h m (by omega)]
  exact h2 m (by omega)
theorem EvI.trt {k : Bool → Int → Ss → Mi} (h : EvI P (bodyI P q s) (.rt v t)) (h2 : EvI P (k true v t) r) : EvI P (.tri q s k) r := by
  obtain ⟨N, h⟩ := h
  obtain ⟨N2, h2⟩ := h2
  refine ⟨N + N2 + 1, fun n hn => ?_⟩
  obtain ⟨m, rfl⟩ : ∃ m, n = m + 1 := ⟨n - 1, by omega⟩
  simp only [runI]
  rw [h m (by omega)]
  exact h2 m (by omega)
theorem EvI.tstop {k : Bool → Int → Ss → Mi} (h : EvI P (bodyI P q s) (.stop e t)) : EvI P (.tri q s k) (.stop e t) := by
  obtain ⟨N, h⟩ := h
  refine ⟨N + 1, fun n hn => ?_⟩
  obtain ⟨m, rfl⟩ : ∃ m, n = m + 1 := ⟨n - 1, by omega⟩
  simp only [runI]
  rw [h m (by omega)]
end
end Go.Proofs.Qxb6500277aGreat
