/- The real machine in memory. -/
import Derived.Test.Qxb6500277aGreatVP3
import Derived.Test.Qxb6500277aGreatKI1
import Derived.Test.Qxb6500277aGreatKW11
namespace Go.Proofs.Qxb6500277aGreat
open Go Go.RowKit

structure Va where
  m : Nat
  h : Nat
structure Gx where
  sp : Nat
  fp : Nat
  li : Nat
  lr : Nat
  rb : Nat
def vC (A : Va) (st : Nat → Int) (G : Gx) (nf : Nat) (V : Vs) (cv iv ov : Value) (o : Nat) : Value := if o = 0 then .pointer (some ⟨A.h, 0, none⟩) else if o < 49 then .int .i64 (st (o - 1)) else if o = 49 then .int .i64 G.sp else if o = 50 then .int .i64 G.fp else if o = 51 then .int .i64 G.li else if o = 52 then .int .i64 G.lr else if o = 53 then .int .i64 G.rb else if o = 54 then .int .i64 nf else if o = 55 then .int .i64 V.pc else if o = 56 then cv else if o = 57 then iv else if o = 58 then .int .i64 V.ip else if o = 59 then .int .i64 V.fuel else if o = 60 then ov else if o = 61 then .int .i64 V.en else if o = 62 then .int .i64 V.rt else if o = 63 then .int .i64 V.steps else if o = 64 then .int .i64 V.most else .int .i64 0
/-- Bytes in a slice. -/
def BAt (w : World) (v : Value) (C : List Nat) : Prop :=
  (v = .slice none 0 0 ∧ C = []) ∨ ∃ b cap f, v = .slice (some ⟨b, 0, none⟩) C.length cap ∧ C.length ≤ cap ∧ Blk w b cap f ∧ ∀ i, i < C.length → f i = .int .u8 (byteAt C i)
def packI (li lr rb : Nat) : Int := ((li + 256 * lr + 65536 * rb : Nat) : Int)
/-- The frames lie on the word stack, the top first. -/
def Lay (st : Nat → Int) : List Fm → Gx → Prop
  | [], G => G = ⟨0, 0, 0, 0, 0⟩
  | f :: r, G => G.li = f.loc.length ∧ G.lr = f.lr ∧ G.rb = f.rb ∧ G.sp = G.fp + G.li + 3 + f.ops.length ∧ (∀ i, i < G.li → st (G.fp + i) = f.loc.getD i 0) ∧ st (G.fp + G.li) = f.ret ∧ (∀ i, i < f.ops.length → st (G.fp + G.li + 3 + i) = f.ops.getD i 0) ∧
    ∃ G', G'.sp = G.fp ∧ G'.li < 256 ∧ G'.lr < 256 ∧ G'.rb ≤ 24 ∧ st (G.fp + G.li + 1) = G'.fp ∧ st (G.fp + G.li + 2) = packI G'.li G'.lr G'.rb ∧ Lay st r G'
structure RX (w : World) (A : Va) (C : List Nat) (I : List Int) (V : Vs) (S : HS) (st : Nat → Int) (G : Gx) (nf : Nat) (cv iv ov : Value) : Prop where
  blk : Blk w A.m 65 (vC A st G nf V cv iv ov)
  hm : HM w A.h S
  lay : Lay st V.fs G
  nfe : nf = V.fs.length
  code : BAt w cv C
  inp : KiAt w iv I
  out : KiAt w ov V.out
  mh : A.m ≠ A.h
  cd : ∀ b, isB cv b → b ≠ A.m ∧ b ≠ A.h ∧ ¬ isB iv b ∧ ¬ isB ov b
  id : ∀ b, isB iv b → b ≠ A.m ∧ b ≠ A.h ∧ ¬ isB ov b
  od : ∀ b, isB ov b → b ≠ A.m ∧ b ≠ A.h
  cl : C.length ≤ 4096
  cb : ∀ i, byteAt C i < 256
  il : I.length ≤ 128
  s48 : G.sp ≤ 48
section
variable {w w' : World} {A : Va} {C : List Nat} {I : List Int} {V : Vs} {S S' : HS} {st : Nat → Int} {G : Gx} {nf : Nat} {cv iv ov : Value} {F : Nat → Prop}
theorem BAt.frame {v : Value} (h : BAt w v C) (k : Fr F w w') (hb : ∀ b, isB v b → ¬ F b) : BAt w' v C := by
  rcases h with h | ⟨b, cap, f, rfl, h1, h2, h3⟩
  · exact .inl h
  · exact .inr ⟨b, cap, f, rfl, h1, h2.frame k (hb b ⟨_, _, rfl⟩), h3⟩
theorem BAt.sl {v : Value} (h : BAt w v C) : ∃ a c, v = .slice a C.length c ∧ C.length ≤ c := by
  rcases h with ⟨rfl, rfl⟩ | ⟨b, cap, f, rfl, h1, h2, h3⟩
  · exact ⟨none, 0, rfl, by simp⟩
  · exact ⟨_, _, rfl, h1⟩
theorem BAt.bk {v : Value} {b : Nat} (h : BAt w v C) (hb : isB v b) : b < w.heap.size := by
  rcases h with ⟨rfl, _⟩ | ⟨b', cap, f, rfl, h1, h2, h3⟩
  · exact absurd hb (nil_noB b)
  · rw [isB_one hb]; exact h2.lt
theorem BAt.get {v : Value} (h : BAt w v C) {i : Nat} (hi : i < C.length) : ∃ b c, v = .slice (some ⟨b, 0, none⟩) C.length c ∧ b < w.heap.size ∧ w.cell? ⟨b, i, none⟩ = some (.int .u8 (byteAt C i)) := by
  rcases h with ⟨rfl, rfl⟩ | ⟨b, cap, f, rfl, h1, h2, h3⟩
  · cases hi
  · exact ⟨b, cap, rfl, h2.lt, by rw [h2.cell (by omega), h3 i hi]⟩
/-- Every byte of the code, in one breath. -/
theorem BAt.all {v : Value} (h : BAt w v C) (h0 : 0 < C.length) : ∃ b c, v = .slice (some ⟨b, 0, none⟩) C.length c ∧ b < w.heap.size ∧ ∀ i, i < C.length → w.cell? ⟨b, i, none⟩ = some (.int .u8 (byteAt C i)) := by
  rcases h with ⟨rfl, rfl⟩ | ⟨b, cap, f, rfl, h1, h2, h3⟩
  · cases h0
  · exact ⟨b, cap, rfl, h2.lt, fun i hi => by rw [h2.cell (by omega), h3 i hi]⟩
theorem vC_sp (x : Nat) : ∀ o, o < 65 → upd (vC A st G nf V cv iv ov) 49 (.int .i64 (x : Nat)) o = vC A st { G with sp := x } nf V cv iv ov o := fun o ho => by
  by_cases e : o = 49
  · subst e; rfl
  · rw [upd_other _ _ _ _ e]
    unfold vC
    simp only [if_neg e]
theorem RX.r_sp (H : RX w A C I V S st G nf cv iv ov) : w.cell? ⟨A.m, 49, none⟩ = some (.int .i64 G.sp) := H.blk.cell (by omega)
theorem vC_fp (x : Nat) : ∀ o, o < 65 → upd (vC A st G nf V cv iv ov) 50 (.int .i64 (x : Nat)) o = vC A st { G with fp := x } nf V cv iv ov o := fun o ho => by
  by_cases e : o = 50
  · subst e; rfl
  · rw [upd_other _ _ _ _ e]
    unfold vC
    simp only [if_neg e]
theorem RX.r_fp (H : RX w A C I V S st G nf cv iv ov) : w.cell? ⟨A.m, 50, none⟩ = some (.int .i64 G.fp) := H.blk.cell (by omega)
theorem vC_li (x : Nat) : ∀ o, o < 65 → upd (vC A st G nf V cv iv ov) 51 (.int .i64 (x : Nat)) o = vC A st { G with li := x } nf V cv iv ov o := fun o ho => by
  by_cases e : o = 51
  · subst e; rfl
  · rw [upd_other _ _ _ _ e]
    unfold vC
    simp only [if_neg e]
theorem RX.r_li (H : RX w A C I V S st G nf cv iv ov) : w.cell? ⟨A.m, 51, none⟩ = some (.int .i64 G.li) := H.blk.cell (by omega)
theorem vC_lr (x : Nat) : ∀ o, o < 65 → upd (vC A st G nf V cv iv ov) 52 (.int .i64 (x : Nat)) o = vC A st { G with lr := x } nf V cv iv ov o := fun o ho => by
  by_cases e : o = 52
  · subst e; rfl
  · rw [upd_other _ _ _ _ e]
    unfold vC
    simp only [if_neg e]
theorem RX.r_lr (H : RX w A C I V S st G nf cv iv ov) : w.cell? ⟨A.m, 52, none⟩ = some (.int .i64 G.lr) := H.blk.cell (by omega)
theorem vC_rb (x : Nat) : ∀ o, o < 65 → upd (vC A st G nf V cv iv ov) 53 (.int .i64 (x : Nat)) o = vC A st { G with rb := x } nf V cv iv ov o := fun o ho => by
  by_cases e : o = 53
  · subst e; rfl
  · rw [upd_other _ _ _ _ e]
    unfold vC
    simp only [if_neg e]
theorem RX.r_rb (H : RX w A C I V S st G nf cv iv ov) : w.cell? ⟨A.m, 53, none⟩ = some (.int .i64 G.rb) := H.blk.cell (by omega)
theorem vC_nf (x : Nat) : ∀ o, o < 65 → upd (vC A st G nf V cv iv ov) 54 (.int .i64 (x : Nat)) o = vC A st G x V cv iv ov o := fun o ho => by
  by_cases e : o = 54
  · subst e; rfl
  · rw [upd_other _ _ _ _ e]
    unfold vC
    simp only [if_neg e]
theorem RX.r_nf (H : RX w A C I V S st G nf cv iv ov) : w.cell? ⟨A.m, 54, none⟩ = some (.int .i64 nf) := H.blk.cell (by omega)
theorem vC_pc (x : Nat) : ∀ o, o < 65 → upd (vC A st G nf V cv iv ov) 55 (.int .i64 (x : Nat)) o = vC A st G nf { V with pc := x } cv iv ov o := fun o ho => by
  by_cases e : o = 55
  · subst e; rfl
  · rw [upd_other _ _ _ _ e]
    unfold vC
    simp only [if_neg e]
theorem RX.r_pc (H : RX w A C I V S st G nf cv iv ov) : w.cell? ⟨A.m, 55, none⟩ = some (.int .i64 V.pc) := H.blk.cell (by omega)
theorem vC_cv (x : Value) : ∀ o, o < 65 → upd (vC A st G nf V cv iv ov) 56 (x) o = vC A st G nf V x iv ov o := fun o ho => by
  by_cases e : o = 56
  · subst e; rfl
  · rw [upd_other _ _ _ _ e]
    unfold vC
    simp only [if_neg e]
theorem RX.r_cv (H : RX w A C I V S st G nf cv iv ov) : w.cell? ⟨A.m, 56, none⟩ = some (cv) := H.blk.cell (by omega)
theorem vC_iv (x : Value) : ∀ o, o < 65 → upd (vC A st G nf V cv iv ov) 57 (x) o = vC A st G nf V cv x ov o := fun o ho => by
  by_cases e : o = 57
  · subst e; rfl
  · rw [upd_other _ _ _ _ e]
    unfold vC
    simp only [if_neg e]
theorem RX.r_iv (H : RX w A C I V S st G nf cv iv ov) : w.cell? ⟨A.m, 57, none⟩ = some (iv) := H.blk.cell (by omega)
theorem vC_ip (x : Nat) : ∀ o, o < 65 → upd (vC A st G nf V cv iv ov) 58 (.int .i64 (x : Nat)) o = vC A st G nf { V with ip := x } cv iv ov o := fun o ho => by
  by_cases e : o = 58
  · subst e; rfl
  · rw [upd_other _ _ _ _ e]
    unfold vC
    simp only [if_neg e]
theorem RX.r_ip (H : RX w A C I V S st G nf cv iv ov) : w.cell? ⟨A.m, 58, none⟩ = some (.int .i64 V.ip) := H.blk.cell (by omega)
theorem vC_fuel (x : Int) : ∀ o, o < 65 → upd (vC A st G nf V cv iv ov) 59 (.int .i64 x) o = vC A st G nf { V with fuel := x } cv iv ov o := fun o ho => by
  by_cases e : o = 59
  · subst e; rfl
  · rw [upd_other _ _ _ _ e]
    unfold vC
    simp only [if_neg e]
theorem RX.r_fuel (H : RX w A C I V S st G nf cv iv ov) : w.cell? ⟨A.m, 59, none⟩ = some (.int .i64 V.fuel) := H.blk.cell (by omega)
theorem vC_ov (x : Value) : ∀ o, o < 65 → upd (vC A st G nf V cv iv ov) 60 (x) o = vC A st G nf V cv iv x o := fun o ho => by
  by_cases e : o = 60
  · subst e; rfl
  · rw [upd_other _ _ _ _ e]
    unfold vC
    simp only [if_neg e]
theorem RX.r_ov (H : RX w A C I V S st G nf cv iv ov) : w.cell? ⟨A.m, 60, none⟩ = some (ov) := H.blk.cell (by omega)
theorem vC_en (x : Int) : ∀ o, o < 65 → upd (vC A st G nf V cv iv ov) 61 (.int .i64 x) o = vC A st G nf { V with en := x } cv iv ov o := fun o ho => by
  by_cases e : o = 61
  · subst e; rfl
  · rw [upd_other _ _ _ _ e]
    unfold vC
    simp only [if_neg e]
theorem RX.r_en (H : RX w A C I V S st G nf cv iv ov) : w.cell? ⟨A.m, 61, none⟩ = some (.int .i64 V.en) := H.blk.cell (by omega)
theorem vC_rt (x : Int) : ∀ o, o < 65 → upd (vC A st G nf V cv iv ov) 62 (.int .i64 x) o = vC A st G nf { V with rt := x } cv iv ov o := fun o ho => by
  by_cases e : o = 62
  · subst e; rfl
  · rw [upd_other _ _ _ _ e]
    unfold vC
    simp only [if_neg e]
theorem RX.r_rt (H : RX w A C I V S st G nf cv iv ov) : w.cell? ⟨A.m, 62, none⟩ = some (.int .i64 V.rt) := H.blk.cell (by omega)
theorem vC_steps (x : Int) : ∀ o, o < 65 → upd (vC A st G nf V cv iv ov) 63 (.int .i64 x) o = vC A st G nf { V with steps := x } cv iv ov o := fun o ho => by
  by_cases e : o = 63
  · subst e; rfl
  · rw [upd_other _ _ _ _ e]
    unfold vC
    simp only [if_neg e]
theorem RX.r_steps (H : RX w A C I V S st G nf cv iv ov) : w.cell? ⟨A.m, 63, none⟩ = some (.int .i64 V.steps) := H.blk.cell (by omega)
theorem vC_most (x : Nat) : ∀ o, o < 65 → upd (vC A st G nf V cv iv ov) 64 (.int .i64 (x : Nat)) o = vC A st G nf { V with most := x } cv iv ov o := fun o ho => by
  by_cases e : o = 64
  · subst e; rfl
  · rw [upd_other _ _ _ _ e]
    unfold vC
    simp only [if_neg e]
theorem RX.r_most (H : RX w A C I V S st G nf cv iv ov) : w.cell? ⟨A.m, 64, none⟩ = some (.int .i64 V.most) := H.blk.cell (by omega)
theorem vC_st (k : Nat) (hk : k < 48) (x : Int) : ∀ o, o < 65 → upd (vC A st G nf V cv iv ov) (1 + k) (.int .i64 x) o = vC A (upd st k x) G nf V cv iv ov o := fun o ho => by
  by_cases e : o = 1 + k
  · subst e
    rw [upd_same]
    unfold vC
    rw [if_neg (by omega), if_pos (by omega), show 1 + k - 1 = k by omega, upd_same]
  · rw [upd_other _ _ _ _ e]
    unfold vC
    by_cases h : o < 49
    · by_cases h0 : o = 0
      · simp only [h0, if_true]
      · simp only [if_neg h0, if_pos h]
        rw [upd_other _ _ _ _ (by omega)]
    · simp only [if_neg h]
theorem RX.r_h (H : RX w A C I V S st G nf cv iv ov) : w.cell? ⟨A.m, 0, none⟩ = some (.pointer (some ⟨A.h, 0, none⟩)) := H.blk.cell (by omega)
theorem RX.r_st (H : RX w A C I V S st G nf cv iv ov) {k : Nat} (hk : k < 48) : w.cell? ⟨A.m, 1 + k, none⟩ = some (.int .i64 (st k)) := by
  rw [H.blk.cell (by omega)]
  unfold vC
  rw [if_neg (by omega), if_pos (by omega), show 1 + k - 1 = k by omega]
/-- Cells of the machine's own block turned. -/
theorem RX.turn {V' : Vs} {st' : Nat → Int} {G' : Gx} {nf' : Nat} (H : RX w A C I V S st G nf cv iv ov) (k : Fr (fun b => b = A.m) w w') (b : Blk w' A.m 65 (vC A st' G' nf' V' cv iv ov)) (hl : Lay st' V'.fs G') (hn : nf' = V'.fs.length) (ho : V'.out = V.out) (hs : G'.sp ≤ 48) : RX w' A C I V' S st' G' nf' cv iv ov :=
  ⟨b, H.hm.frame k (fun e => H.mh e.symm), hl, hn, H.code.frame k (fun b hb e => (H.cd b hb).1 e), H.inp.frame k (fun b hb e => (H.id b hb).1 e), by rw [ho]; exact H.out.frame k (fun b hb e => (H.od b hb).1 e), H.mh, H.cd, H.id, H.od, H.cl, H.cb, H.il, hs⟩
/-- The heap turned. -/
theorem RX.heap (H : RX w A C I V S st G nf cv iv ov) (k : Fr (OnlyH A.h) w w') (hm : HM w' A.h S') : RX w' A C I V S' st G nf cv iv ov :=
  ⟨H.blk.frame k H.mh, hm, H.lay, H.nfe, H.code.frame k (fun b hb e => (H.cd b hb).2.1 e), H.inp.frame k (fun b hb e => (H.id b hb).2.1 e), H.out.frame k (fun b hb e => (H.od b hb).2 e), H.mh, H.cd, H.id, H.od, H.cl, H.cb, H.il, H.s48⟩
theorem RX.same (H : RX w A C I V S st G nf cv iv ov) (k : Fr (fun _ => False) w w') : RX w' A C I V S st G nf cv iv ov :=
  ⟨H.blk.frame k (fun h => h), H.hm.frame k (fun h => h), H.lay, H.nfe, H.code.frame k (fun _ _ h => h), H.inp.frame k (fun _ _ h => h), H.out.frame k (fun _ _ h => h), H.mh, H.cd, H.id, H.od, H.cl, H.cb, H.il, H.s48⟩
theorem RX.s_pc (H : RX w A C I V S st G nf cv iv ov) (x : Nat) : RX (w.setCell ⟨A.m, 55, none⟩ (.int .i64 (x : Nat))) A C I { V with pc := x } S st G nf cv iv ov :=
  H.turn ((Fr.refl (fun b => b = A.m) w).setC A.m 55 _ (fun _ => rfl)) ((H.blk.set 55 _).congr (vC_pc x)) H.lay H.nfe rfl H.s48
theorem RX.s_ip (H : RX w A C I V S st G nf cv iv ov) (x : Nat) : RX (w.setCell ⟨A.m, 58, none⟩ (.int .i64 (x : Nat))) A C I { V with ip := x } S st G nf cv iv ov :=
  H.turn ((Fr.refl (fun b => b = A.m) w).setC A.m 58 _ (fun _ => rfl)) ((H.blk.set 58 _).congr (vC_ip x)) H.lay H.nfe rfl H.s48
theorem RX.s_fuel (H : RX w A C I V S st G nf cv iv ov) (x : Int) : RX (w.setCell ⟨A.m, 59, none⟩ (.int .i64 x)) A C I { V with fuel := x } S st G nf cv iv ov :=
  H.turn ((Fr.refl (fun b => b = A.m) w).setC A.m 59 _ (fun _ => rfl)) ((H.blk.set 59 _).congr (vC_fuel x)) H.lay H.nfe rfl H.s48
theorem RX.s_en (H : RX w A C I V S st G nf cv iv ov) (x : Int) : RX (w.setCell ⟨A.m, 61, none⟩ (.int .i64 x)) A C I { V with en := x } S st G nf cv iv ov :=
  H.turn ((Fr.refl (fun b => b = A.m) w).setC A.m 61 _ (fun _ => rfl)) ((H.blk.set 61 _).congr (vC_en x)) H.lay H.nfe rfl H.s48
theorem RX.s_rt (H : RX w A C I V S st G nf cv iv ov) (x : Int) : RX (w.setCell ⟨A.m, 62, none⟩ (.int .i64 x)) A C I { V with rt := x } S st G nf cv iv ov :=
  H.turn ((Fr.refl (fun b => b = A.m) w).setC A.m 62 _ (fun _ => rfl)) ((H.blk.set 62 _).congr (vC_rt x)) H.lay H.nfe rfl H.s48
theorem RX.s_steps (H : RX w A C I V S st G nf cv iv ov) (x : Int) : RX (w.setCell ⟨A.m, 63, none⟩ (.int .i64 x)) A C I { V with steps := x } S st G nf cv iv ov :=
  H.turn ((Fr.refl (fun b => b = A.m) w).setC A.m 63 _ (fun _ => rfl)) ((H.blk.set 63 _).congr (vC_steps x)) H.lay H.nfe rfl H.s48
theorem RX.s_most (H : RX w A C I V S st G nf cv iv ov) (x : Nat) : RX (w.setCell ⟨A.m, 64, none⟩ (.int .i64 (x : Nat))) A C I { V with most := x } S st G nf cv iv ov :=
  H.turn ((Fr.refl (fun b => b = A.m) w).setC A.m 64 _ (fun _ => rfl)) ((H.blk.set 64 _).congr (vC_most x)) H.lay H.nfe rfl H.s48
/-- What the frames' layout says of the stack pointer. -/
theorem Lay.used : ∀ {fs : List Fm} {G : Gx}, Lay st fs G → G.sp = usedF fs
  | [], G, h => by simp only [Lay] at h; rw [h]; rfl
  | f :: r, G, h => by
    simp only [Lay] at h
    obtain ⟨h1, h2, h3, h4, h5, h6, h7, G', g1, g2, g3, g4, g5, g6, g7⟩ := h
    have := Lay.used g7
    rw [used_c, h4, h1, ← g1, this]
    omega
/-- Words at and above the stack pointer do not matter. -/
theorem Lay.congr {st' : Nat → Int} : ∀ {fs : List Fm} {G : Gx}, Lay st fs G → (∀ i, i < G.sp → st' i = st i) → Lay st' fs G
  | [], G, h, _ => h
  | f :: r, G, h, hc => by
    simp only [Lay] at h ⊢
    obtain ⟨h1, h2, h3, h4, h5, h6, h7, G', g1, g2, g3, g4, g5, g6, g7⟩ := h
    refine ⟨h1, h2, h3, h4, fun i hi => by rw [hc _ (by omega)]; exact h5 i hi, by rw [hc _ (by omega)]; exact h6, fun i hi => by rw [hc _ (by omega)]; exact h7 i hi, G', g1, g2, g3, g4, by rw [hc _ (by omega)]; exact g5, by rw [hc _ (by omega)]; exact g6, Lay.congr g7 (fun i hi => hc i (by omega))⟩
end
end Go.Proofs.Qxb6500277aGreat
