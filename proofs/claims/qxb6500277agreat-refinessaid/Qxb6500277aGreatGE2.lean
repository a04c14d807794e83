/- The code generator's engine in memory. -/
import Derived.Test.Qxb6500277aGreatGE1
import Derived.Test.Qxb6500277aGreatKM2
import Derived.Test.Qxb6500277aGreatGP20
namespace Go.Proofs.Qxb6500277aGreat
open Go Go.RowKit

/-- The buffers. -/
structure Gb where
  code : List Nat
  holes : List Int
  calls : List (Nat × Nat)
  entry : List Int
def gC (hd : Nat → Value) (cv hv xv ev : Value) (o : Nat) : Value := if o < 12 then hd o else if o = 12 then cv else if o = 13 then hv else if o = 14 then xv else ev
/-- The engine in memory: P holds its own blocks, each of one colour. -/
structure GY (w : World) (g : Nat) (P : Nat → Prop) (hd : Nat → Value) (B : Gb) (cv hv xv ev : Value) (col : Nat → Nat) : Prop where
  blk : Blk w g 16 (gC hd cv hv xv ev)
  code : BAt w cv B.code
  hol : KiAt w hv B.holes
  cal : FxAt w xv B.calls
  ent : KiAt w ev B.entry
  lt : ∀ b, P b → b < w.heap.size
  pg : P g ∧ col g = 0
  cc : ∀ b, isB cv b → P b ∧ col b = 1
  ch : ∀ b, isB hv b → P b ∧ col b = 2
  cx : ∀ b, isB xv b → P b ∧ col b = 3
  ce : ∀ b, isB ev b → P b ∧ col b = 4
  hl : B.holes.length ≤ B.code.length
  xl : B.calls.length ≤ B.code.length
def GX (w : World) (g : Nat) (P : Nat → Prop) (hd : Nat → Value) (B : Gb) : Prop := ∃ cv hv xv ev col, GY w g P hd B cv hv xv ev col
/-- What an emitter leaves. -/
def EmR (w : World) (g : Nat) (P : Nat → Prop) (hd : Nat → Value) (B : Gb) (e : Ending) (w' : World) : Prop := e = .returned (.tuple #[]) ∧ GX w' g (Gw P w w') hd B ∧ Fr P w w'
section
variable {w w' w0 w1 w2 : World} {g : Nat} {P P' S : Nat → Prop} {hd : Nat → Value} {B B' : Gb} {cv hv xv ev : Value} {col : Nat → Nat}
theorem FxAt.frame {v : Value} {l : List (Nat × Nat)} (h : FxAt w v l) (k : Fr S w w') (hb : ∀ b, isB v b → ¬ S b) : FxAt w' v l := by
  rcases h with h | ⟨b, cap, f, rfl, h1, h2, h3⟩
  · exact .inl h
  · exact .inr ⟨b, cap, f, rfl, h1, h2.frame k (hb b ⟨_, _, rfl⟩), h3⟩
theorem GX.mono (h : GX w g P hd B) (hP : ∀ b, P b → P' b) (hl : ∀ b, P' b → b < w.heap.size) : GX w g P' hd B := by
  obtain ⟨cv, hv, xv, ev, col, H⟩ := h
  exact ⟨cv, hv, xv, ev, col, H.blk, H.code, H.hol, H.cal, H.ent, hl, ⟨hP _ H.pg.1, H.pg.2⟩, fun b hb => ⟨hP _ (H.cc b hb).1, (H.cc b hb).2⟩, fun b hb => ⟨hP _ (H.ch b hb).1, (H.ch b hb).2⟩, fun b hb => ⟨hP _ (H.cx b hb).1, (H.cx b hb).2⟩, fun b hb => ⟨hP _ (H.ce b hb).1, (H.ce b hb).2⟩, H.hl, H.xl⟩
theorem GY.frame (H : GY w g P hd B cv hv xv ev col) (k : Fr S w w') (hs : ∀ b, P b → ¬ S b) : GY w' g P hd B cv hv xv ev col :=
  ⟨H.blk.frame k (hs _ H.pg.1), H.code.frame k fun b hb => hs _ (H.cc b hb).1, H.hol.frame k fun b hb => hs _ (H.ch b hb).1, H.cal.frame k fun b hb => hs _ (H.cx b hb).1, H.ent.frame k fun b hb => hs _ (H.ce b hb).1, fun b hb => Nat.lt_of_lt_of_le (H.lt b hb) k.size, H.pg, H.cc, H.ch, H.cx, H.ce, H.hl, H.xl⟩
theorem GY.same (H : GY w g P hd B cv hv xv ev col) (k : Fr (fun _ => False) w w') : GY w' g P hd B cv hv xv ev col := H.frame k fun _ _ => id
theorem GX.frame (h : GX w g P hd B) (k : Fr S w w') (hs : ∀ b, P b → ¬ S b) : GX w' g P hd B := by
  obtain ⟨cv, hv, xv, ev, col, H⟩ := h
  exact ⟨cv, hv, xv, ev, col, H.frame k hs⟩
theorem GX.lt (h : GX w g P hd B) : ∀ b, P b → b < w.heap.size := by
  obtain ⟨cv, hv, xv, ev, col, H⟩ := h
  exact H.lt
theorem GY.glt (H : GY w g P hd B cv hv xv ev col) : g < w.heap.size := H.lt _ H.pg.1
theorem Gw.lt (hP : ∀ b, P b → b < w.heap.size) (hs : w.heap.size ≤ w'.heap.size) : ∀ b, Gw P w w' b → b < w'.heap.size := fun b hb => hb.elim (fun h => Nat.lt_of_lt_of_le (hP b h) hs) (fun h => h.2)
theorem Gw.gw (s1 : w.heap.size ≤ w1.heap.size) (s2 : w1.heap.size ≤ w2.heap.size) : ∀ b, Gw (Gw P w w1) w1 w2 b → Gw P w w2 b := fun b hb => by
  rcases hb with (h | h) | h
  · exact .inl h
  · exact .inr ⟨h.1, Nat.lt_of_lt_of_le h.2 s2⟩
  · exact .inr ⟨Nat.le_trans s1 h.1, h.2⟩
/-- What stands between the emitters of one function. -/
def Em (w0 : World) (P : Nat → Prop) (g : Nat) (hd : Nat → Value) (w : World) (B : Gb) : Prop := GX w g (Gw P w0 w) hd B ∧ Fr P w0 w ∧ ∀ b, P b → b < w0.heap.size
theorem Em.nil (h : GX w g P hd B) : Em w P g hd w B := ⟨h.mono (fun _ hb => .inl hb) (Gw.lt h.lt (Nat.le_refl _)), Fr.refl _ _, h.lt⟩
theorem Em.then {e : Ending} (h : Em w0 P g hd w B) (k : EmR w g (Gw P w0 w) hd B' e w') : Em w0 P g hd w' B' :=
  ⟨k.2.1.mono (Gw.gw h.2.1.size k.2.2.size) (Gw.lt h.2.2 (Nat.le_trans h.2.1.size k.2.2.size)), h.2.1.trans k.2.2 (fun i hi hb => hb.elim id (fun h => by have := h.1; omega)), h.2.2⟩
theorem Em.same (h : Em w0 P g hd w B) (k : Fr (fun _ => False) w w') : Em w0 P g hd w' B :=
  ⟨(h.1.frame k fun _ _ => id).mono (fun _ hb => hb.elim (fun h => .inl h) (fun h => .inr ⟨h.1, Nat.lt_of_lt_of_le h.2 k.size⟩)) (Gw.lt h.2.2 (Nat.le_trans h.2.1.size k.size)), h.2.1.trans k (fun _ _ h => h.elim), h.2.2⟩
theorem Em.ret (h : Em w0 P g hd w B) : EmR w0 g P hd B (.returned (.tuple #[])) w := ⟨rfl, h.1, h.2.1⟩
theorem EmR.pre {e : Ending} (hP : ∀ b, P b → b < w.heap.size) (k : Fr (fun _ => False) w w1) (h : EmR w1 g P hd B e w') : EmR w g P hd B e w' :=
  ⟨h.1, h.2.1.mono (fun _ hb => hb.elim (fun h => .inl h) (fun h => .inr ⟨Nat.le_trans k.size h.1, h.2⟩)) (Gw.lt hP (Nat.le_trans k.size h.2.2.size)), (k.mono (S' := P) fun _ _ h => h.elim).trans h.2.2 (fun _ _ h => h)⟩
theorem GY.x (H : GY w g P hd B cv hv xv ev col) : GX w g P hd B := ⟨cv, hv, xv, ev, col, H⟩
theorem GY.cl (H : GY w g P hd B cv hv xv ev col) {o : Nat} (ho : o < 16) : w.cell? ⟨g, o, none⟩ = some (gC hd cv hv xv ev o) := H.blk.cell ho
open Classical in
/-- A buffer turns: code. -/
theorem GY.setC (H : GY w g P hd B cv hv xv ev col) (k : Fr (isB cv) w w1) {v : Value} {C : List Nat} (hc : BAt w1 v C) (hb : ∀ b, isB v b → w.heap.size ≤ b ∨ isB cv b) (hw : ∀ b, isB v b → b < w1.heap.size) (hle : B.code.length ≤ C.length) :
    GX (w1.setCell ⟨g, 12, none⟩ v) g (Gw P w (w1.setCell ⟨g, 12, none⟩ v)) hd { B with code := C } ∧ Fr P w (w1.setCell ⟨g, 12, none⟩ v) := by
  have kk : Fr (fun b => b = g) w1 (w1.setCell ⟨g, 12, none⟩ v) := (Fr.refl _ _).setC g 12 v fun _ => rfl
  have hgc : ¬ isB cv g := fun h => by have h1 := (H.cc g h).2; rw [H.pg.2] at h1; cases h1
  have hgl := H.glt
  have hvg : ∀ b, isB v b → b ≠ g := fun b h e => by
    rcases hb b h with h1 | h1
    · omega
    · exact hgc (e ▸ h1)
  have hn : ∀ b, P b → col b ≠ 1 → ¬ isB v b := fun b hp hc h => by
    rcases hb b h with h1 | h1
    · have := H.lt b hp; omega
    · exact hc (H.cc b h1).2
  refine ⟨⟨v, hv, xv, ev, fun b => if isB v b then 1 else col b, ?_, ?_, ?_, ?_, ?_, ?_, ?_, ?_, ?_, ?_, ?_, ?_, ?_⟩, ?_⟩
  · refine ((H.blk.frame k hgc).set 12 v).congr fun o ho => ?_
    unfold upd gC
    by_cases h1 : o < 12
    · rw [if_neg (by omega), if_pos h1, if_pos h1]
    · by_cases h2 : o = 12
      · rw [if_pos h2, if_neg h1, if_pos h2]
      · rw [if_neg h2, if_neg h1, if_neg h1, if_neg h2, if_neg h2]
  · exact hc.frame kk fun b h => hvg b h
  · exact (H.hol.frame k fun b h h' => by have h1 := (H.ch b h).2; rw [(H.cc b h').2] at h1; cases h1).frame kk fun b h e => by have h1 := (H.ch b h).2; rw [e, H.pg.2] at h1; cases h1
  · exact (H.cal.frame k fun b h h' => by have h1 := (H.cx b h).2; rw [(H.cc b h').2] at h1; cases h1).frame kk fun b h e => by have h1 := (H.cx b h).2; rw [e, H.pg.2] at h1; cases h1
  · exact (H.ent.frame k fun b h h' => by have h1 := (H.ce b h).2; rw [(H.cc b h').2] at h1; cases h1).frame kk fun b h e => by have h1 := (H.ce b h).2; rw [e, H.pg.2] at h1; cases h1
  · exact Gw.lt H.lt (Nat.le_trans k.size kk.size)
  · exact ⟨.inl H.pg.1, by rw [if_neg (fun h => hvg g h rfl)]; exact H.pg.2⟩
  · intro b h
    refine ⟨?_, by rw [if_pos h]⟩
    rcases hb b h with h1 | h1
    · exact .inr ⟨h1, Nat.lt_of_lt_of_le (hw b h) kk.size⟩
    · exact .inl (H.cc b h1).1
  · intro b h
    have h2 := H.ch b h
    exact ⟨.inl h2.1, by rw [if_neg (hn b h2.1 (by rw [h2.2]; decide))]; exact h2.2⟩
  · intro b h
    have h2 := H.cx b h
    exact ⟨.inl h2.1, by rw [if_neg (hn b h2.1 (by rw [h2.2]; decide))]; exact h2.2⟩
  · intro b h
    have h2 := H.ce b h
    exact ⟨.inl h2.1, by rw [if_neg (hn b h2.1 (by rw [h2.2]; decide))]; exact h2.2⟩
  · exact Nat.le_trans H.hl hle
  · exact Nat.le_trans H.xl hle
  · exact (k.mono fun b _ h => (H.cc b h).1).trans kk fun b _ e => by rw [e]; exact H.pg.1
theorem BAt.lt {v : Value} {C : List Nat} (h : BAt w v C) : ∀ b, isB v b → b < w.heap.size := fun b hb => by
  rcases h with ⟨rfl, _⟩ | ⟨x, cap, f, rfl, _, h2, _⟩
  · exact (nil_noB b hb).elim
  · rw [isB_one hb]; exact h2.lt
end
set_option maxRecDepth 100000 in
set_option maxHeartbeats 1000000 in
theorem hereF {w : World} {g : Nat} {P : Nat → Prop} {hd : Nat → Value} {B : Gb} (h : GX w g P hd B) : Calls Tryz.prog 93 #[.pointer (some ⟨g, 0, none⟩)] w fun e w' => e = .returned (.int .i64 (B.code.length : Nat)) ∧ w' = w := by
  obtain ⟨cv, hv, xv, ev, col, H⟩ := h
  have c12 := H.cl (o := 12) (by omega)
  have hlt := H.glt
  have hz := H.blk.frozen
  obtain ⟨ca, cc, hce, _⟩ := H.code.sl
  have e12 : gC hd cv hv xv ev 12 = .slice ca B.code.length cc := hce
  rw [e12] at c12
  clear e12 hce H
  go_enter Tryz.func93, Tryz.ntmps93
  go_wp2_with fail
  go_ret
  exact ⟨rfl, rfl⟩
/-- Bytes that have just been made. -/
theorem made_bytes (w : World) (ys : List Nat) (cs : Array Value) (h : cs = (ys.map bv).toArray) : ∀ i, i < ys.length → (w.alloc (.cells cs 5)).cell? ⟨w.heap.size, i, none⟩ = some (.int .u8 (byteAt ys i : Nat)) := fun i hi => by
  subst h
  have hb := Blk.new w (ys.map bv).toArray 5 (fun o => .int .u8 (byteAt ys o : Nat)) (fun o ho => by
    have ho : o < ys.length := by simpa using ho
    simp [bv, byteAt, ho])
  exact hb.cell (by simpa using hi)
/-- What a byte appender answers. -/
def ApR (w : World) (v : Value) (p : List Nat) (e : Ending) (w' : World) : Prop := ∃ v', e = .returned v' ∧ BAt w' v' p ∧ (∀ b, isB v' b → w.heap.size ≤ b ∨ isB v b) ∧ Fr (isB v) w w'
set_option maxRecDepth 100000 in
set_option maxHeartbeats 1000000 in
theorem opF {w : World} {g : Nat} {P : Nat → Prop} {hd : Nat → Value} {B : Gb} (h : GX w g P hd B) (o : Nat) (ho : o < 256) (hl : B.code.length ≤ 50000) : Calls Tryz.prog 96 #[.pointer (some ⟨g, 0, none⟩), .int .i64 (o : Nat)] w (EmR w g P hd { B with code := B.code ++ [o] }) := by
  obtain ⟨cv, hv, xv, ev, col, H⟩ := h
  have c12 := H.cl (o := 12) (by omega)
  have hlt := H.glt
  have hz := H.blk.frozen
  have e12 : gC hd cv hv xv ev 12 = cv := rfl
  rw [e12] at c12
  have kA := (Fr.refl (fun _ => False) w).alloc (.cells #[.int .u8 (o : Nat)] 5)
  have HA := H.same kA
  have hcode := HA.code
  have hm := made_bytes w [o] #[.int .u8 (o : Nat)] rfl
  have Hh : Hid _ := And.intro HA (And.intro kA H.lt)
  clear e12 H HA kA
  go_enter Tryz.func96, Tryz.ntmps96
  go_wp2_with (
    at_builtin
    refine wpList_appB (by rfl) _ _ (by rfl) _ _ [o] _ 1 1 (by rfl) (by rfl) rfl hcode hm (by simp) (by simp; omega) ?_
    intro v' w8 hc5 hb5 f5
    obtain ⟨va, vc, hvv, _⟩ := hc5.sl
    simp only [List.length_append, List.length_cons, List.length_nil, Nat.zero_add] at hvv
    subst hvv
    have hcm := Hh.out.1.blk.frame f5 (fun h => by have h1 := (Hh.out.1.cc _ h).2; rw [Hh.out.1.pg.2] at h1; cases h1)
    have cm1 := hcm.cell (o := 12) (by omega)
    have cml := hcm.lt
    have cmz := hcm.frozen
    clear hcm
    have Hc5 : Hid _ := And.intro hc5 (And.intro hb5 f5)
    clear hc5 hb5 f5)
  go_end0
  obtain ⟨hc5, hb5, f5⟩ := Hc5.out
  have key := Hh.out.1.setC f5 hc5 hb5 hc5.lt (by simp)
  exact EmR.pre Hh.out.2.2 Hh.out.2.1 ⟨rfl, key⟩
set_option maxRecDepth 100000 in
set_option maxHeartbeats 1000000 in
theorem slotF {w : World} {g : Nat} {P : Nat → Prop} {hd : Nat → Value} {B : Gb} (h : GX w g P hd B) (o x : Nat) (ho : o < 256) (hx : x < 256) (hl : B.code.length ≤ 50000) : Calls Tryz.prog 225 #[.pointer (some ⟨g, 0, none⟩), .int .i64 (o : Nat), .int .i64 (x : Nat)] w (EmR w g P hd { B with code := B.code ++ [o, x] }) := by
  obtain ⟨cv, hv, xv, ev, col, H⟩ := h
  have c12 := H.cl (o := 12) (by omega)
  have hlt := H.glt
  have hz := H.blk.frozen
  have e12 : gC hd cv hv xv ev 12 = cv := rfl
  rw [e12] at c12
  have kA := (Fr.refl (fun _ => False) w).alloc (.cells #[.int .u8 (o : Nat), .int .u8 (x : Nat)] 5)
  have HA := H.same kA
  have hcode := HA.code
  have hm := made_bytes w [o, x] #[.int .u8 (o : Nat), .int .u8 (x : Nat)] rfl
  have Hh : Hid _ := And.intro HA (And.intro kA H.lt)
  clear e12 H HA kA
  go_enter Tryz.func225, Tryz.ntmps225
  go_wp2_with (
    at_builtin
    refine wpList_appB (by rfl) _ _ (by rfl) _ _ [o, x] _ 2 2 (by rfl) (by rfl) rfl hcode hm (by simp) (by simp; omega) ?_
    intro v' w8 hc5 hb5 f5
    obtain ⟨va, vc, hvv, _⟩ := hc5.sl
    simp only [List.length_append, List.length_cons, List.length_nil, Nat.zero_add, Nat.reduceAdd] at hvv
    subst hvv
    have hcm := Hh.out.1.blk.frame f5 (fun h => by have h1 := (Hh.out.1.cc _ h).2; rw [Hh.out.1.pg.2] at h1; cases h1)
    have cm1 := hcm.cell (o := 12) (by omega)
    have cml := hcm.lt
    have cmz := hcm.frozen
    clear hcm
    have Hc5 : Hid _ := And.intro hc5 (And.intro hb5 f5)
    clear hc5 hb5 f5)
  go_end0
  obtain ⟨hc5, hb5, f5⟩ := Hc5.out
  have key := Hh.out.1.setC f5 hc5 hb5 hc5.lt (by simp)
  exact EmR.pre Hh.out.2.2 Hh.out.2.1 ⟨rfl, key⟩
end Go.Proofs.Qxb6500277aGreat
