/- The real parser between calls; Parse, New. -/
import Derived.Test.Qxb6500277aGreatPW18
namespace Go.Proofs.Qxb6500277aGreat
open Go Go.RowKit

theorem evm_un {T : List Tok} {q : Rq} {i : Nat} {ns : List Nd} {r : Rs} (h : EvM T (.call q i ns fin) r) : EvM T (body T q i ns) r := by
  obtain ⟨N, h⟩ := h
  refine ⟨N, fun n hn => ?_⟩
  have := h (n + 1) (by omega)
  simp only [run] at this
  cases hr : run T n (body T q i ns) with
  | bad e p => rw [hr] at this; exact this
  | ok x j ms =>
    rw [hr] at this
    cases n <;> exact this
/-- What both parsers answer. -/
def Ans (src : ByteArray) (ns : List Nd) (root err pos : Int) : Prop := (ansErr src ≠ 0 ∧ ns = [] ∧ root = -1 ∧ err = ansErr src ∧ pos = ansPos src) ∨
  (ansErr src = 0 ∧ ((EvM (ansTs src) (body (ansTs src) (.prog (-1) (-1)) 0 []) (.bad err pos) ∧ err ≠ 0 ∧ ns = [] ∧ root = -1) ∨ ∃ j, EvM (ansTs src) (body (ansTs src) (.prog (-1) (-1)) 0 []) (.ok root j ns) ∧ err = 0 ∧ pos = 0))
theorem Ans.det {src : ByteArray} {ns ns' : List Nd} {r r' e e' p p' : Int} (h : Ans src ns r e p) (h' : Ans src ns' r' e' p') : ns = ns' ∧ r = r' ∧ e = e' ∧ p = p' := by
  rcases h with ⟨h0, rfl, rfl, rfl, rfl⟩ | ⟨h0, h⟩
  · rcases h' with ⟨_, rfl, rfl, rfl, rfl⟩ | ⟨h1, _⟩
    · exact ⟨rfl, rfl, rfl, rfl⟩
    · exact absurd h1 h0
  · rcases h' with ⟨h1, _⟩ | ⟨_, h'⟩
    · exact absurd h0 h1
    · rcases h with ⟨a, b, rfl, rfl⟩ | ⟨j, a, rfl, rfl⟩
      · rcases h' with ⟨c, d, rfl, rfl⟩ | ⟨j', c, rfl, rfl⟩
        · have := a.det c; cases this; exact ⟨rfl, rfl, rfl, rfl⟩
        · have := a.det c; cases this
      · rcases h' with ⟨c, d, rfl, rfl⟩ | ⟨j', c, rfl, rfl⟩
        · have := a.det c; cases this
        · have := a.det c; cases this; exact ⟨rfl, rfl, rfl, rfl⟩
def pEmp (lx ab : Nat) (o : Nat) : Value := match o with
  | 0 => .pointer (some ⟨lx, 0, none⟩) | 1 => .slice none 0 0 | 2 => .int .i64 0 | 3 => .slice (some ⟨ab, 0, none⟩) 200 200 | 4 => .int .i64 0 | 5 => .bool false | 6 => .int .i64 0 | _ => .int .i64 0
/-- The parser between calls. -/
def PIdle (w : World) (p lx ab : Nat) (O : Nat → Prop) : Prop := (Blk w p 8 (pEmp lx ab) ∧ p ≠ ab ∧ ∃ f, Blk w ab 1600 f) ∨
  ∃ tb T i ns fl er q, PM w ⟨p, lx, tb, ab⟩ T i ns fl er q ∧ O tb ∧ (fl = false → er = 0 ∧ q = 0 ∧ i + 1 = T.length) ∧ (fl = true → er ≠ 0)
structure RI (w : World) (p : Nat) (O : Nat → Prop) (lx bb ab : Nat) (r : R) : Prop where
  lex : LRep w lx bb r
  idle : PIdle w p lx ab O
  own : O p ∧ O lx ∧ O bb ∧ O ab
  ne : p ≠ lx ∧ p ≠ bb ∧ ab ≠ lx ∧ ab ≠ bb
  lt : ∀ c, O c → c < w.heap.size
def RIx (w : World) (p : Nat) (O : Nat → Prop) : Prop := ∃ lx bb ab r, RI w p O lx bb ab r
theorem RIx.frame {w w' : World} {p : Nat} {O S : Nat → Prop} (h : RIx w p O) (k : Fr S w w') (hs : ∀ c, O c → ¬ S c) : RIx w' p O := by
  obtain ⟨lx, bb, ab, r, H⟩ := h
  refine ⟨lx, bb, ab, r, H.lex.frame k (hs _ H.own.2.1) (hs _ H.own.2.2.1), ?_, H.own, H.ne, fun c hc => Nat.lt_of_lt_of_le (H.lt c hc) k.size⟩
  rcases H.idle with ⟨a, b, f, c⟩ | ⟨tb, T, i, ns, fl, er, q, P, ht, h1, h2⟩
  · exact .inl ⟨a.frame k (hs _ H.own.1), b, f, c.frame k (hs _ H.own.2.2.2)⟩
  · exact .inr ⟨tb, T, i, ns, fl, er, q, P.frame k (hs _ H.own.1) (hs _ ht) (hs _ H.own.2.2.2), ht, h1, h2⟩
theorem RI.pcells {w : World} {p lx bb ab : Nat} {O : Nat → Prop} {r : R} (H : RI w p O lx bb ab r) : ∃ g : Nat → Value, Blk w p 8 g ∧ g 0 = .pointer (some ⟨lx, 0, none⟩) ∧ g 3 = .slice (some ⟨ab, 0, none⟩) 200 200 := by
  rcases H.idle with ⟨a, _⟩ | ⟨tb, T, i, ns, fl, er, q, P, _⟩
  · exact ⟨_, a, rfl, rfl⟩
  · exact ⟨_, P.blk, rfl, rfl⟩
theorem RI.arena {w : World} {p lx bb ab : Nat} {O : Nat → Prop} {r : R} (H : RI w p O lx bb ab r) : p ≠ ab ∧ ∃ f, Blk w ab 1600 f := by
  rcases H.idle with ⟨_, h⟩ | ⟨tb, T, i, ns, fl, er, q, P, _⟩
  · exact h
  · obtain ⟨f, h, _⟩ := P.arr
    exact ⟨P.apt.2.1, f, h⟩
def treeV (v : Value) (root err pos : Int) : Value := .agg #[v, .int .i64 root, .int .i64 err, .int .i64 pos]
/-- What Parse answers. -/
def PaR (w : World) (p : Nat) (O : Nat → Prop) (src : ByteArray) (e : Ending) (w' : World) : Prop := ∃ O' v ns root err pos, e = .returned (treeV v root err pos) ∧ RIx w' p O' ∧ (∀ c, O' c → O c ∨ w.heap.size ≤ c) ∧ Fr O w w' ∧ NLV w' v ns ∧ (∀ b, isBlk v b → w.heap.size ≤ b ∧ ¬ O' b) ∧ Ans src ns root err pos ∧ ns.length ≤ 200
def box4 : Obj := .cells #[.slice none 0 0, .int .i64 0, .int .i64 0, .int .i64 0] 66
theorem box4_blk (w : World) : Blk (w.alloc box4) w.heap.size 4 (fun o => match o with | 0 => .slice none 0 0 | _ => .int .i64 0) := Blk.new w _ _ _ fun o ho => by
  obtain rfl | rfl | rfl | rfl : o = 0 ∨ o = 1 ∨ o = 2 ∨ o = 3 := by have : o < 4 := ho; omega
  all_goals rfl
theorem RI.after {w : World} {p lx bb ab : Nat} {O : Nat → Prop} {r : R} (H : RI w p O lx bb ab r) {w1 w2 : World} {bb' : Nat} {r' : R} (L1 : LRep w1 lx bb' r') (k1 : Fr (lS lx bb) (w.alloc box4) w1) (hbb : bb' = bb ∨ (w.alloc box4).heap.size ≤ bb') (k2 : Fr (fun c => c = p ∨ c = ab ∨ c = w.heap.size) w1 w2)
    (E : Nat → Prop) (hE : ∀ c, E c → w.heap.size ≤ c ∧ c < w2.heap.size) (hid : PIdle w2 p lx ab (fun c => O c ∨ c = bb' ∨ E c)) : RIx w2 p (fun c => O c ∨ c = bb' ∨ E c) ∧ (∀ c, (O c ∨ c = bb' ∨ E c) → O c ∨ w.heap.size ≤ c) ∧ Fr O w w2 := by
  have hlt : ∀ c, O c → c < w.heap.size := H.lt
  have o1 := hlt _ H.own.1
  have o2 := hlt _ H.own.2.1
  have o3 := hlt _ H.own.2.2.1
  have o4 := hlt _ H.own.2.2.2
  have hne := H.ne
  have sz1 : (w.alloc box4).heap.size = w.heap.size + 1 := by simp [World.size_alloc]
  rw [sz1] at hbb
  have f1 := (Fr.refl (fun _ => False) w).alloc box4
  have F1 : Fr O w w1 := (f1.mono (S' := O) (fun _ _ h => h.elim)).trans k1 (fun c _ h => h.elim (fun e => e ▸ H.own.2.1) (fun e => e ▸ H.own.2.2.1))
  have L2 := L1.frame k2 (by omega) (by omega)
  refine ⟨⟨lx, bb', ab, r', L2, hid, ⟨.inl H.own.1, .inl H.own.2.1, .inr (.inl rfl), .inl H.own.2.2.2⟩, ⟨hne.1, by omega, hne.2.2.1, by omega⟩, fun c hc => ?_⟩, fun c hc => ?_, F1.trans k2 fun c hc h => ?_⟩
  · rcases hc with hc | rfl | hc
    · have := hlt _ hc; have := F1.size; have := k2.size; omega
    · exact L2.lt.2
    · exact (hE c hc).2
  · rcases hc with hc | rfl | hc
    · exact .inl hc
    · rcases hbb with e | e
      · rw [e]; exact .inl H.own.2.2.1
      · exact .inr (by omega)
    · exact .inr (hE c hc).1
  · rcases h with rfl | rfl | rfl
    · exact H.own.1
    · exact H.own.2.2.2
    · omega
set_option maxRecDepth 100000 in
set_option maxHeartbeats 8000000 in
theorem parse_err {w : World} {p : Nat} {O : Nat → Prop} (H : RIx w p O) (src : ByteArray) (h0 : ansErr src ≠ 0) : Calls Tryz.prog 62 #[.pointer (some ⟨p, 0, none⟩), .string src] w (PaR w p O src) := by
  obtain ⟨lx, bb, ab, r, H⟩ := H
  obtain ⟨g, hg, g0, g3⟩ := H.pcells
  obtain ⟨hpa, fa, hfa⟩ := H.arena
  have hp := hg.lt
  have hlx := H.lt _ H.own.2.1
  have c0 := hg.cell (o := 0) (by omega)
  rw [g0] at c0
  have f1 := (Fr.refl (fun _ => False) w).alloc box4
  have HR : Hid _ := H
  go_enter Tryz.func62, Tryz.ntmps62
  go_wp2_with fail
  refine (realL (H.lex.frame f1 (fun h => h) (fun h => h)) src).mono ?_
  rintro e w1 ⟨bb', r', v, rfl, L1, k1, hbb, hv, hvb⟩
  have sz1 : (w.alloc box4).heap.size = w.heap.size + 1 := by simp [World.size_alloc]
  have o1 := H.lt _ H.own.1
  have o2 := H.lt _ H.own.2.1
  have o3 := H.lt _ H.own.2.2.1
  have o4 := H.lt _ H.own.2.2.2
  have hne := H.ne
  have hg1 : Blk w1 p 8 g := (hg.frame f1 (fun h => h)).frame k1 (by unfold lS; omega)
  have hb1 := (box4_blk w).frame k1 (by unfold lS; omega)
  have hfa1 : Blk w1 ab 1600 fa := (hfa.frame f1 (fun h => h)).frame k1 (by unfold lS; omega)
  have Hw1 : Hid _ := k1.size
  have Hbl : Hid (bb' < w1.heap.size) := L1.lt.2
  have HA : Hid (∀ (w2 : World) (_ : Fr (fun c => c = p ∨ c = ab ∨ c = w.heap.size) w1 w2) (E : Nat → Prop), (∀ c, E c → w.heap.size ≤ c ∧ c < w2.heap.size) → PIdle w2 p lx ab (fun c => O c ∨ c = bb' ∨ E c) → RIx w2 p (fun c => O c ∨ c = bb' ∨ E c) ∧ (∀ c, (O c ∨ c = bb' ∨ E c) → O c ∨ w.heap.size ≤ c) ∧ Fr O w w2) := fun w2 k2 E hE hid => H.after L1 k1 hbb k2 E hE hid
  unfold toksV
  have a0 := hg1.cell (o := 0) (by omega)
  have a1 := hg1.cell (o := 1) (by omega)
  have a2 := hg1.cell (o := 2) (by omega)
  have a4 := hg1.cell (o := 4) (by omega)
  have a5 := hg1.cell (o := 5) (by omega)
  have a6 := hg1.cell (o := 6) (by omega)
  have a7 := hg1.cell (o := 7) (by omega)
  have az := hg1.frozen
  have hp1 := hg1.lt
  have hv0 : v = .slice none 0 0 := by
    rcases ansErr_ts src with h | h
    · exact absurd h.1 h0
    · rw [h.2] at hv
      rcases hv with h | ⟨b, _, _, h⟩
      · exact h.1
      · simp at h
  subst hv0
  have d0 := hb1.cell (o := 0) (by omega)
  have d1 := hb1.cell (o := 1) (by omega)
  have d2 := hb1.cell (o := 2) (by omega)
  have d3 := hb1.cell (o := 3) (by omega)
  have dz := hb1.frozen
  have hd1 := hb1.lt
  simp only at d0 d1 d2 d3
  have hb0 : (ansErr src != 0) = true := by simpa using h0
  have hpne : p ≠ w.heap.size := by omega
  have Ha : Hid (Blk w1 ab 1600 fa) := hfa1
  have Hg : Hid (Blk w1 p 8 g) := hg1
  have HB1 : Hid (Blk w1 w.heap.size 4 _) := hb1
  clear sz1 hg hg1 hb1 hfa hfa1 k1 L1 hv hvb hbb f1 H c0 hlx hp o1 o2 o3 o4 hne
  go_wp2_with fail
  have K1 := ((((((((Fr.refl (fun c => c = p) w1).setC p 1 (.slice none 0 0) (fun _ => rfl)).setC p 2 (.int .i64 0) (fun _ => rfl)).setC p 4 (.int .i64 0) (fun _ => rfl)).setC p 5 (.bool false) (fun _ => rfl)).setC p 6 (.int .i64 0) (fun _ => rfl)).setC p 7 (.int .i64 0) (fun _ => rfl)).setC p 1 (.slice none 0 0) (fun _ => rfl))
  have B1 : Blk _ p 8 (pEmp lx ab) := (((((((Hg.out.set 1 (.slice none 0 0)).set 2 (.int .i64 0)).set 4 (.int .i64 0)).set 5 (.bool false)).set 6 (.int .i64 0)).set 7 (.int .i64 0)).set 1 (.slice none 0 0)).congr fun o ho => by
    rcases lt8c ho with rfl | rfl | rfl | rfl | rfl | rfl | rfl | rfl
    · exact g0
    · rfl
    · rfl
    · exact g3
    all_goals rfl
  have KK := ((((((K1.mono (S' := fun c => c = p ∨ c = ab ∨ c = w.heap.size) (fun _ _ h => .inl h)).setC w.heap.size 0 (.slice none 0 0) (fun _ => .inr (.inr rfl))).setC w.heap.size 1 (.int .i64 (-1)) (fun _ => .inr (.inr rfl))).setC w.heap.size 2 (.int .i64 (ansErr src)) (fun _ => .inr (.inr rfl))).setC w.heap.size 3 (.int .i64 (ansPos src)) (fun _ => .inr (.inr rfl))).alloc (.cells #[.slice none 0 0, .int .i64 (ansErr src), .int .i64 (ansPos src)] 159))
  have hane : ab ≠ w.heap.size := by have := HR.out.lt _ HR.out.own.2.2.2; omega
  have Z := ((((HB1.out.frame K1 (Ne.symm hpne)).set 0 (.slice none 0 0)).set 1 (.int .i64 (-1))).set 2 (.int .i64 (ansErr src))).set 3 (.int .i64 (ansPos src)) |>.alloc (.cells #[.slice none 0 0, .int .i64 (ansErr src), .int .i64 (ansPos src)] 159)
  have q0 := Z.cell (o := 0) (by omega)
  have q1 := Z.cell (o := 1) (by omega)
  have q2 := Z.cell (o := 2) (by omega)
  have q3 := Z.cell (o := 3) (by omega)
  simp only [upd] at q0 q1 q2 q3
  refine bodyPost_ret (v := treeV (.slice none 0 0) (-1) (ansErr src) (ansPos src)) (by simp [results, Tryz.results62, go_sem, treeV, q0, q1, q2, q3]) rfl ?_
  obtain ⟨h1, h2, h3⟩ := HA.out _ KK (fun _ => False) (fun _ h => h.elim) (.inl ⟨((((B1.setOther ⟨w.heap.size, 0, none⟩ _ hpne).setOther ⟨w.heap.size, 1, none⟩ _ hpne).setOther ⟨w.heap.size, 2, none⟩ _ hpne).setOther ⟨w.heap.size, 3, none⟩ _ hpne).alloc _, hpa, fa, (((((Ha.out.frame K1 (Ne.symm hpa)).setOther ⟨w.heap.size, 0, none⟩ _ hane).setOther ⟨w.heap.size, 1, none⟩ _ hane).setOther ⟨w.heap.size, 2, none⟩ _ hane).setOther ⟨w.heap.size, 3, none⟩ _ hane).alloc _⟩)
  exact ⟨_, _, [], -1, _, _, rfl, h1, h2, h3, .inl ⟨rfl, rfl⟩, fun b hb => by (obtain ⟨_, _, e⟩ := hb; cases e), .inl ⟨h0, rfl, rfl, rfl, rfl⟩, by simp⟩
theorem PM.start {w1 : World} {p lx tb ab : Nat} {g fa : Nat → Value} {T : List Tok} (hg : Blk w1 p 8 g) (g0 : g 0 = .pointer (some ⟨lx, 0, none⟩)) (g3 : g 3 = .slice (some ⟨ab, 0, none⟩) 200 200) (ht : TokAt w1 tb T) (hfa : Blk w1 ab 1600 fa) (hT : TkOk T) (h1 : p ≠ tb) (h2 : p ≠ ab) (h3 : tb ≠ ab) :
    PM ((((((w1.setCell ⟨p, 1, none⟩ (.slice (some ⟨tb, 0, none⟩) T.length T.length)).setCell ⟨p, 2, none⟩ (.int .i64 0)).setCell ⟨p, 4, none⟩ (.int .i64 0)).setCell ⟨p, 5, none⟩ (.bool false)).setCell ⟨p, 6, none⟩ (.int .i64 0)).setCell ⟨p, 7, none⟩ (.int .i64 0)) ⟨p, lx, tb, ab⟩ T 0 [] false 0 0 := by
  have K1 := ((((((Fr.refl (fun c => c = p) w1).setC p 1 (.slice (some ⟨tb, 0, none⟩) T.length T.length) (fun _ => rfl)).setC p 2 (.int .i64 0) (fun _ => rfl)).setC p 4 (.int .i64 0) (fun _ => rfl)).setC p 5 (.bool false) (fun _ => rfl)).setC p 6 (.int .i64 0) (fun _ => rfl)).setC p 7 (.int .i64 0) (fun _ => rfl)
  refine ⟨((((((hg.set 1 (.slice (some ⟨tb, 0, none⟩) T.length T.length)).set 2 (.int .i64 0)).set 4 (.int .i64 0)).set 5 (.bool false)).set 6 (.int .i64 0)).set 7 (.int .i64 0)).congr fun o ho => ?_, ht.frame K1 (Ne.symm h1), ⟨fa, hfa.frame K1 (Ne.symm h2), fun j hj => by simp at hj⟩, hT, hT.pos, .nil, by simp, ⟨h1, h2, h3⟩⟩
  rcases lt8c ho with rfl | rfl | rfl | rfl | rfl | rfl | rfl | rfl
  · exact g0
  · rfl
  · rfl
  · exact g3
  all_goals rfl
set_option maxRecDepth 100000 in
set_option maxHeartbeats 8000000 in
theorem parse_ok {w : World} {p : Nat} {O : Nat → Prop} (H : RIx w p O) (src : ByteArray) (h0 : ansErr src = 0) : Calls Tryz.prog 62 #[.pointer (some ⟨p, 0, none⟩), .string src] w (PaR w p O src) := by
  obtain ⟨lx, bb, ab, r, H⟩ := H
  obtain ⟨g, hg, g0, g3⟩ := H.pcells
  obtain ⟨hpa, fa, hfa⟩ := H.arena
  have hp := hg.lt
  have hlx := H.lt _ H.own.2.1
  have c0 := hg.cell (o := 0) (by omega)
  rw [g0] at c0
  have f1 := (Fr.refl (fun _ => False) w).alloc box4
  have HR : Hid _ := H
  go_enter Tryz.func62, Tryz.ntmps62
  go_wp2_with fail
  refine (realL (H.lex.frame f1 (fun h => h) (fun h => h)) src).mono ?_
  rintro e w1 ⟨bb', r', v, rfl, L1, k1, hbb, hv, hvb⟩
  have sz1 : (w.alloc box4).heap.size = w.heap.size + 1 := by simp [World.size_alloc]
  have o1 := H.lt _ H.own.1
  have o2 := H.lt _ H.own.2.1
  have o3 := H.lt _ H.own.2.2.1
  have o4 := H.lt _ H.own.2.2.2
  have hne := H.ne
  have hg1 : Blk w1 p 8 g := (hg.frame f1 (fun h => h)).frame k1 (by unfold lS; omega)
  have hb1 := (box4_blk w).frame k1 (by unfold lS; omega)
  have hfa1 : Blk w1 ab 1600 fa := (hfa.frame f1 (fun h => h)).frame k1 (by unfold lS; omega)
  have Hw1 : Hid _ := k1.size
  have Hbl : Hid (bb' < w1.heap.size) := L1.lt.2
  have HA : Hid (∀ (w2 : World) (_ : Fr (fun c => c = p ∨ c = ab ∨ c = w.heap.size) w1 w2) (E : Nat → Prop), (∀ c, E c → w.heap.size ≤ c ∧ c < w2.heap.size) → PIdle w2 p lx ab (fun c => O c ∨ c = bb' ∨ E c) → RIx w2 p (fun c => O c ∨ c = bb' ∨ E c) ∧ (∀ c, (O c ∨ c = bb' ∨ E c) → O c ∨ w.heap.size ≤ c) ∧ Fr O w w2) := fun w2 k2 E hE hid => H.after L1 k1 hbb k2 E hE hid
  unfold toksV
  have a0 := hg1.cell (o := 0) (by omega)
  have a1 := hg1.cell (o := 1) (by omega)
  have a2 := hg1.cell (o := 2) (by omega)
  have a4 := hg1.cell (o := 4) (by omega)
  have a5 := hg1.cell (o := 5) (by omega)
  have a6 := hg1.cell (o := 6) (by omega)
  have a7 := hg1.cell (o := 7) (by omega)
  have az := hg1.frozen
  have hp1 := hg1.lt
  have hT := ansTs_ok h0
  obtain ⟨tb, hv0, htk, htb⟩ : ∃ tb, v = .slice (some ⟨tb, 0, none⟩) (ansTs src).length (ansTs src).length ∧ TokAt w1 tb (ansTs src) ∧ (w.heap.size + 1 ≤ tb ∧ tb ≠ bb') := by
    rcases hv with ⟨_, h⟩ | ⟨b, e, h, _⟩
    · have := hT.pos; rw [h] at this; simp at this
    · exact ⟨b, e, h, by have := hvb b ⟨_, _, e⟩; rw [sz1] at this; exact this⟩
  subst hv0
  have hpe : ansPos src = 0 := by
    rcases ansErr_ts src with h | h
    · exact h.2.2
    · exact absurd h0 h.1
  rw [h0, hpe]
  have htl := Blk.lt htk
  have P1 := (PM.start (lx := lx) hg1 g0 g3 htk hfa1 hT (by omega) hpa (by omega)).same ((Fr.refl _ _).alloc (.cells #[.slice (some ⟨tb, 0, none⟩) (ansTs src).length (ansTs src).length, .int .i64 0, .int .i64 0] 159))
  have K1 := (((((((Fr.refl (fun c => c = p) w1).setC p 1 (.slice (some ⟨tb, 0, none⟩) (ansTs src).length (ansTs src).length) (fun _ => rfl)).setC p 2 (.int .i64 0) (fun _ => rfl)).setC p 4 (.int .i64 0) (fun _ => rfl)).setC p 5 (.bool false) (fun _ => rfl)).setC p 6 (.int .i64 0) (fun _ => rfl)).setC p 7 (.int .i64 0) (fun _ => rfl)).alloc (.cells #[.slice (some ⟨tb, 0, none⟩) (ansTs src).length (ansTs src).length, .int .i64 0, .int .i64 0] 159)
  have hb2 := hb1.frame K1 (by omega)
  have HP1 : Hid _ := P1
  have HK1 : Hid _ := K1
  have HB2 : Hid (Blk _ w.heap.size 4 _) := hb2
  have Htb : Hid _ := htb
  have hpne : p ≠ w.heap.size := by omega
  have hane : ab ≠ w.heap.size := by omega
  have Htl : Hid _ := htl
  clear P1 K1 hb2 hb1 sz1 hg hg1 hfa hfa1 k1 L1 hv hvb hbb f1 H c0 hlx hp o1 o2 o3 o4 hne htk htb htl hpe
  generalize hTT : ansTs src = T at *
  have HTT : Hid _ := hTT
  clear hTT
  go_wp2_with fail
  refine (progF HP1.out (Im.refl (T := T) (.call (.prog (-1) (-1)) 0 [] fin))).mono ?_
  rintro v w3 ⟨f3, ⟨x, j, ms, rfl, P3, hk0, hx1, hx2, C3⟩ | ⟨x, rfl, er, q, j, ms, her, P3, hE⟩⟩
  · have K3 := HK1.out.mono (S' := fun c => c = p ∨ c = ab ∨ c = w.heap.size) (fun _ _ h => .inl h) |>.trans f3 (fun c _ h => h.elim .inl (fun h => .inr (.inl h)))
    have hb3 := HB2.out.frame f3 (by unfold PS; simp only; omega)
    have HE : Hid _ := evm_un (C3 _ (.fin _ _ _))
    have Hk0 : Hid _ := hk0
    clear C3 hk0 a0 a1 a2 a4 a5 a6 a7 az hp1
    obtain ⟨r1, r2, r3, r4, r5⟩ := P3.r15
    obtain ⟨b1, b2, b3⟩ := P3.blt
    simp only at r1 r2 r3 r4 r5 b1 b2 b3
    go_wp2_with fail
    refine (answerF P3).mono ?_
    rintro e w4 ⟨v, rfl, hn4, f4, hv4, hvv⟩
    have P4 := P3.same f4
    have K4 := K3.trans f4 (fun _ _ h => h.elim)
    have hb4 := hb3.frame f4 (fun h => h)
    have H4 : Hid (NLV w4 v ms) := hn4
    clear hn4
    have HV : Hid _ := hv4
    have sz3 := K3.size
    clear hv4 r1 r2 r3 r4 r5 b1 b2 b3 f4 f3 P3 hb3 K3
    have d0 := hb4.cell (o := 0) (by omega)
    have d1 := hb4.cell (o := 1) (by omega)
    have d2 := hb4.cell (o := 2) (by omega)
    have d3 := hb4.cell (o := 3) (by omega)
    have dz := hb4.frozen
    have hd1 := hb4.lt
    simp only at d0 d1 d2 d3
    have fin4 : Hid (∀ vv, vv = v → PaR w p O src (.returned (treeV vv x 0 0)) ((((w4.setCell ⟨w.heap.size, 0, none⟩ vv).setCell ⟨w.heap.size, 1, none⟩ (.int .i64 x)).setCell ⟨w.heap.size, 2, none⟩ (.int .i64 0)).setCell ⟨w.heap.size, 3, none⟩ (.int .i64 0))) := fun vv hvv0 => by
      subst vv
      have K5 := ((((Fr.refl (fun c => c = w.heap.size) w4).setC w.heap.size 0 v (fun _ => rfl)).setC w.heap.size 1 (.int .i64 x) (fun _ => rfl)).setC w.heap.size 2 (.int .i64 0) (fun _ => rfl)).setC w.heap.size 3 (.int .i64 0) (fun _ => rfl)
      have KK := K4.trans K5 (fun _ _ h => .inr (.inr h))
      have tb1 := Htb.out.1
      have tl := Htl.out
      have ks := KK.size
      have w1s : w.heap.size + 1 ≤ w1.heap.size := by have := Hw1.out; simp only [World.size_alloc] at this; exact this
      have htok : j + 1 = T.length := (P4.tok.eof j P4.lt).1 (by have := P4.tkE; rw [this]; exact Hk0.out)
      obtain ⟨h1, h2, h3⟩ := HA.out _ KK (fun c => c = tb) (fun c h => by subst h; omega) (.inr ⟨tb, T, j, ms, false, 0, 0, P4.frame K5 hpne (by show ¬ tb = _; omega) hane, .inr (.inr rfl), fun _ => ⟨rfl, rfl, htok⟩, fun h => by cases h⟩)
      refine ⟨_, v, ms, x, 0, 0, rfl, h1, h2, h3, ?_, fun b hb => ?_, .inr ⟨h0, .inr ⟨j, by rw [HTT.out]; exact HE.out, rfl, rfl⟩⟩, P4.le⟩
      · exact NLV.frame (S := fun c => c = w.heap.size) H4.out K5 (fun b hb => by have := HV.out b hb; omega)
      · have hb2 := HV.out b hb
        refine ⟨by omega, ?_⟩
        rintro (h | h | h)
        · have := HR.out.lt _ h; omega
        · have := Hbl.out; omega
        · omega
    have HB4 : Hid (Blk w4 w.heap.size 4 _) := hb4
    clear hb4
    have Z : Hid (∀ vv, _) := fun (vv : Value) => (((HB4.out.set 0 vv).set 1 (.int .i64 x)).set 2 (.int .i64 0)).set 3 (.int .i64 0)
    rcases hvv with rfl | ⟨b, n, rfl⟩
    · go_wp2_with fail
      have Z1 := Z.out (.slice none 0 0)
      have q0 := Z1.cell (o := 0) (by omega)
      have q1 := Z1.cell (o := 1) (by omega)
      have q2 := Z1.cell (o := 2) (by omega)
      have q3 := Z1.cell (o := 3) (by omega)
      simp only [upd] at q0 q1 q2 q3
      exact bodyPost_ret (v := treeV (.slice none 0 0) x 0 0) (by simp [results, Tryz.results62, go_sem, treeV, q0, q1, q2, q3]) rfl (fin4.out _ rfl)
    · go_wp2_with fail
      have Z1 := Z.out (.slice (some ⟨b, 0, none⟩) n n)
      have q0 := Z1.cell (o := 0) (by omega)
      have q1 := Z1.cell (o := 1) (by omega)
      have q2 := Z1.cell (o := 2) (by omega)
      have q3 := Z1.cell (o := 3) (by omega)
      simp only [upd] at q0 q1 q2 q3
      exact bodyPost_ret (v := treeV (.slice (some ⟨b, 0, none⟩) n n) x 0 0) (by simp [results, Tryz.results62, go_sem, treeV, q0, q1, q2, q3]) rfl (fin4.out _ rfl)
  · have K3 := HK1.out.mono (S' := fun c => c = p ∨ c = ab ∨ c = w.heap.size) (fun _ _ h => .inl h) |>.trans f3 (fun c _ h => h.elim .inl (fun h => .inr (.inl h)))
    have hb3 := HB2.out.frame f3 (by unfold PS; simp only; omega)
    have HE : Hid _ := evm_un hE
    clear hE a0 a1 a2 a4 a5 a6 a7 az hp1 f3
    obtain ⟨r0, r1, r2, r3, r4, r5, r6, r7⟩ := P3.regs
    obtain ⟨b1, b2, b3⟩ := P3.blt
    simp only at r0 r1 r2 r3 r4 r5 r6 r7 b1 b2 b3
    have d0 := hb3.cell (o := 0) (by omega)
    have d1 := hb3.cell (o := 1) (by omega)
    have d2 := hb3.cell (o := 2) (by omega)
    have d3 := hb3.cell (o := 3) (by omega)
    have dz := hb3.frozen
    have hd1 := hb3.lt
    simp only at d0 d1 d2 d3
    have HB3 : Hid (Blk w3 w.heap.size 4 _) := hb3
    clear hb3
    go_wp2_with fail
    refine wp_region_text (by kernel_rfl) (by kernel_rfl) ?_
    go_wp2_with fail
    refine ⟨by kernel_rfl, ?_⟩
    go_wp2_with fail
    have Z1 := ((((HB3.out.set 0 (.slice none 0 0)).set 1 (.int .i64 (-1))).set 2 (.int .i64 er)).set 3 (.int .i64 q)).drew
    have q0 := Z1.cell (o := 0) (by omega)
    have q1 := Z1.cell (o := 1) (by omega)
    have q2 := Z1.cell (o := 2) (by omega)
    have q3 := Z1.cell (o := 3) (by omega)
    simp only [upd] at q0 q1 q2 q3
    refine bodyPost_ret (v := treeV (.slice none 0 0) (-1) er q) (by simp [results, Tryz.results62, go_sem, treeV, q0, q1, q2, q3]) rfl ?_
    have K5 := ((((Fr.refl (fun c => c = w.heap.size) w3).setC w.heap.size 0 (.slice none 0 0) (fun _ => rfl)).setC w.heap.size 1 (.int .i64 (-1)) (fun _ => rfl)).setC w.heap.size 2 (.int .i64 er) (fun _ => rfl)).setC w.heap.size 3 (.int .i64 q) (fun _ => rfl) |>.drew
    have KK := K3.trans K5 (fun _ _ h => .inr (.inr h))
    have tb1 := Htb.out.1
    have tl := Htl.out
    have ks := KK.size
    obtain ⟨h1, h2, h3⟩ := HA.out _ KK (fun c => c = tb) (fun c h => by subst h; omega) (.inr ⟨tb, T, j, ms, true, er, q, P3.frame K5 hpne (by show ¬ tb = _; omega) hane, .inr (.inr rfl), (fun h => by cases h), fun _ => her⟩)
    exact ⟨_, _, [], -1, er, q, rfl, h1, h2, h3, .inl ⟨rfl, rfl⟩, fun b hb => by (obtain ⟨_, _, e⟩ := hb; cases e), .inr ⟨h0, .inl ⟨by rw [HTT.out]; exact HE.out, her, rfl, rfl⟩⟩, by simp⟩
theorem parseR {w : World} {p : Nat} {O : Nat → Prop} (H : RIx w p O) (src : ByteArray) : Calls Tryz.prog 62 #[.pointer (some ⟨p, 0, none⟩), .string src] w (PaR w p O src) := by
  by_cases h0 : ansErr src = 0
  · exact parse_ok H src h0
  · exact parse_err H src h0
end Go.Proofs.Qxb6500277aGreat
