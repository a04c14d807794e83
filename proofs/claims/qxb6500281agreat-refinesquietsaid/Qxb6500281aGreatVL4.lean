/- The law: bytes of a string; both Runs, whatever they are handed. -/
import Derived.Test.Qxb6500281aGreatVL3
import Derived.Test.Qxb6500281aGreatVR37
import Derived.Test.Qxb6500281aGreatVM36
import Derived.Laws.IdiomStrings
namespace Go.Proofs.Qxb6500281aGreat
open Go Go.RowKit

def bys (s : ByteArray) : List Nat := s.data.toList.map (·.toNat)
theorem bys_len (s : ByteArray) : (bys s).length = s.size := by simp [bys]
theorem bys_lt (s : ByteArray) (i : Nat) : byteAt (bys s) i < 256 := by
  unfold byteAt bys
  by_cases h : i < s.data.toList.length
  · simp only [List.getD_eq_getElem?_getD, List.getElem?_map, List.getElem?_eq_getElem h, Option.map_some, Option.getD_some]
    exact UInt8.toNat_lt _
  · rw [List.getD_eq_getElem?_getD, List.getElem?_eq_none (by simpa using h)]
    decide
/-- A row of bytes with the mark behind its last cell. -/
def CBy (w : World) (b : Nat) (C : List Nat) : Prop := ∃ c T, w.heap[b]? = some (.cells c T (c.size, c.size + 1)) ∧ C.length ≤ c.size ∧ ∀ i, i < C.length → c[i]? = some (.int .u8 (byteAt C i : Nat))
section
variable {w w' : World} {b : Nat} {C : List Nat} {F : Nat → Prop}
theorem CBy.lt (h : CBy w b C) : b < w.heap.size := by
  obtain ⟨c, T, h1, _⟩ := h
  exact (Array.getElem?_eq_some_iff.1 h1).1
theorem CBy.cell (h : CBy w b C) {i : Nat} (hi : i < C.length) : w.cell? ⟨b, i, none⟩ = some (.int .u8 (byteAt C i : Nat)) := by
  obtain ⟨c, T, h1, h2, h3⟩ := h
  simp [World.cell?, h1, h3 i hi]
theorem CBy.frozen (h : CBy w b C) {i : Nat} (hi : i < C.length) : w.frozen? ⟨b, i, none⟩ = false := by
  obtain ⟨c, T, h1, h2, h3⟩ := h
  simp [World.frozen?, h1]
  omega
theorem CBy.frame (h : CBy w b C) (k : Fr F w w') (hb : ¬ F b) : CBy w' b C := by
  have hl := h.lt
  obtain ⟨c, T, h1, h2, h3⟩ := h
  exact ⟨c, T, by rw [k.block b hl hb]; exact h1, h2, h3⟩
theorem CBy.set (h : CBy w b C) {i x : Nat} : CBy (w.setCell ⟨b, i, none⟩ (.int .u8 (x : Nat))) b (C.set i x) := by
  obtain ⟨c, T, h1, h2, h3⟩ := h
  refine ⟨c.setIfInBounds i (.int .u8 (x : Nat)), T, ?_, by simpa using h2, fun k hk => ?_⟩
  · simp [World.setCell, Array.getElem?_modify, h1]
  · have hk' : k < C.length := by simpa using hk
    by_cases e : i = k
    · subst e
      rw [Array.getElem?_setIfInBounds_self_of_lt (by omega)]
      simp [byteAt, hk']
    · rw [Array.getElem?_setIfInBounds_ne e, h3 k hk']
      simp [byteAt, List.getElem?_set_ne e]
theorem CBy.rd {cap : Nat} (h : CBy w b C) (hc : C.length ≤ cap) : BRd w (.slice (some ⟨b, 0, none⟩) C.length cap) C := .inr ⟨b, cap, rfl, hc, h.lt, fun _ hi => h.cell hi⟩
end
section
variable {ops : Array Oper} {Q : Exit → Act → World → Prop} {a : Act} {w : World} {rest : List Oper} {o : Oper}
/-- A string turned into bytes. -/
theorem wpList_conv (hgd : o.guard = none) (x : Operand) (ho : o.op = .convert 9 53 x) (s : ByteArray) (hx : a.eval x = .string s)
    (h : ∀ cap w', Fr (fun _ => False) w w' → w'.heap.size = w.heap.size + 1 → CBy w' w.heap.size (bys s) → s.size ≤ cap → wpList Tryz.prog ops Q rest (a.put o.dst (.slice (some ⟨w.heap.size, 0, none⟩) s.size cap)) w') : wpList Tryz.prog ops Q (o :: rest) a w := by
  have hsz : (bytesRow s (grownCap w s.size 0 5)).size = s.size + (grownCap w s.size 0 5 - s.size) := by simp [bytesRow]
  refine wpList_run hgd (.slice (some ⟨w.heap.size, 0, none⟩) s.size (grownCap w s.size 0 5)) (w.drew.alloc (.cells (bytesRow s (grownCap w s.size 0 5)) 5 ((bytesRow s (grownCap w s.size 0 5)).size, (bytesRow s (grownCap w s.size 0 5)).size + 1))) ?_ (h (grownCap w s.size 0 5) _ (((Fr.refl (fun _ => False) w).drew).alloc _) (by simp [World.size_alloc]) ?_ (grownCap_ge w s.size 0 5))
  · obtain ⟨dst, op, ty, pos, aft, gd⟩ := o
    simp only at ho
    subst ho
    have e : execOp a.eval { dst := dst, op := .convert 9 53 x, type := ty, pos := pos, after := aft, guard := gd } = (do pure (.value (← convert 9 53 (a.eval x)))) := rfl
    rw [e, hx, Sem.run_bind, run_bytes_of_string w 9 53 5 s Tryz.underlying9 Tryz.underlying53 Tryz.underlying5]
    rfl
  · refine ⟨bytesRow s (grownCap w s.size 0 5), 5, ?_, by rw [bys_len, hsz]; omega, fun i hi => ?_⟩
    · have : (w.drew.alloc (.cells (bytesRow s (grownCap w s.size 0 5)) 5 ((bytesRow s (grownCap w s.size 0 5)).size, (bytesRow s (grownCap w s.size 0 5)).size + 1))).heap = w.heap.push (.cells (bytesRow s (grownCap w s.size 0 5)) 5 ((bytesRow s (grownCap w s.size 0 5)).size, (bytesRow s (grownCap w s.size 0 5)).size + 1)) := rfl
      rw [this]
      exact Array.getElem?_push_size
    · have hi' : i < s.data.size := by rw [bys_len] at hi; simpa using hi
      unfold bytesRow
      rw [Array.getElem?_append_left (by simpa using hi')]
      rw [Array.getElem?_map, Array.getElem?_eq_getElem hi']
      have e : (bys s).getD i 0 = s.data[i].toNat := by
        unfold bys
        rw [List.getD_eq_getElem?_getD, List.getElem?_map, List.getElem?_eq_getElem (by simpa using hi')]
        simp
      show some (Value.int .u8 (s.data[i].toNat : Nat)) = some (.int .u8 ((bys s).getD i 0 : Nat))
      rw [e]
end
/-- The real machine between two runs. -/
structure RI (w : World) (A : Va) (S : HS) (s : Int) (t : Nat) (cv iv : Value) : Prop where
  ex : ∃ C I V st G nf, RX w A C I V S st G nf cv iv nilS ∧ V.steps = s ∧ V.most = t ∧ usedF V.fs ≤ V.most ∧ V.most ≤ 48 ∧ V.pc ≤ C.length ∧ V.ip ≤ I.length ∧ (V.en ≠ 21 → V.rt = 0) ∧ ((V.fs = [] ∧ V.en = 0) ∨ ChF C.length V.fs S.top)
  rel : ∃ Mx, Rel S Mx
section
variable {w w' : World} {A : Va} {S S' : HS} {s s' : Int} {t t' : Nat} {cv iv cv' iv' xv yv : Value} {C : List Nat} {I L : List Int} {er po en rt fu fuel sm tm : Int} {M M' Mk : MS} {m hm : Nat} {O F : Nat → Prop}
theorem RI.frame (H : RI w A S s t cv iv) (k : Fr F w w') (hF : ∀ b, VQ A cv iv b → ¬ F b) : RI w' A S s t cv iv := by
  obtain ⟨C, I, V, st, G, nf, R, h⟩ := H.ex
  exact ⟨⟨C, I, V, st, G, nf, R.frame k (fun b hb => ⟨fun e => hF b (.inl (.inl e)) hb, fun e => hF b (.inl (.inr e)) hb, fun e => hF b (.inr (.inl e)) hb, fun e => hF b (.inr (.inr e)) hb, nil_noB b⟩), h⟩, H.rel⟩
theorem RI.same (H : RI w A S s t cv iv) (k : Fr (fun _ => False) w w') : RI w' A S s t cv iv := H.frame k (fun _ _ h => h)
theorem RI.lt (H : RI w A S s t cv iv) {b : Nat} (h : VQ A cv iv b) : b < w.heap.size := by
  obtain ⟨C, I, V, st, G, nf, R, _⟩ := H.ex
  rcases h with (h | h) | h | h
  · rw [h]; exact R.lt
  · rw [h]; exact HM.lt R.hm
  · exact R.code.bk h
  · exact R.inp.bk h
/-- What both Runs answer. -/
def Ans (C : List Nat) (I : List Int) (fuel er po en rt fu : Int) (L : List Int) (s : Int) (t : Nat) (Mk : MS) : Prop :=
  (C.length ≤ 4096 ∧ I.length ≤ 128 ∧ er = 0 ∧ po = 0 ∧ ∃ k, RunR C I (X1 C fuel) k ∧ en = (itV C I k (X1 C fuel)).1.en ∧ rt = (itV C I k (X1 C fuel)).1.rt ∧ fu = (itV C I k (X1 C fuel)).1.fuel ∧ L = (itV C I k (X1 C fuel)).1.out ∧ s = (itV C I k (X1 C fuel)).1.steps ∧ t = (itV C I k (X1 C fuel)).1.most ∧ Mk = (itV C I k (X1 C fuel)).2) ∨
  (4096 < C.length ∧ er = 31 ∧ po = 4096 ∧ en = 0 ∧ rt = 0 ∧ fu = fuel ∧ L = []) ∨ (C.length ≤ 4096 ∧ 128 < I.length ∧ er = 32 ∧ po = 128 ∧ en = 0 ∧ rt = 0 ∧ fu = fuel ∧ L = [])
theorem run_no {k : Nat} (hR : RunR C I (X1 C fuel) k) (hf : fuel ≤ 0) : k = 0 ∧ ((X1 C fuel).1.en = 22 ∨ (X1 C fuel).1.en = 24) ∧ (X1 C fuel).1.rt = 0 ∧ (X1 C fuel).1.out = [] ∧ (X1 C fuel).1.fuel = fuel ∧ (X1 C fuel).1.steps = 0 ∧ (X1 C fuel).1.most = 0 := by
  have hx : ((X1 C fuel).1.en = 22 ∨ (X1 C fuel).1.en = 24) ∧ (X1 C fuel).1.rt = 0 ∧ (X1 C fuel).1.out = [] ∧ (X1 C fuel).1.fuel = fuel ∧ (X1 C fuel).1.steps = 0 ∧ (X1 C fuel).1.most = 0 := by
    unfold X1 callV
    split
    · exact ⟨.inr rfl, rfl, rfl, rfl, rfl, rfl⟩
    · split
      · exact ⟨.inr rfl, rfl, rfl, rfl, rfl, rfl⟩
      · split
        · exact ⟨.inr rfl, rfl, rfl, rfl, rfl, rfl⟩
        · unfold enterV
          rw [if_pos (show (V0 fuel).fuel ≤ 0 from hf)]
          exact ⟨.inl rfl, rfl, rfl, rfl, rfl, rfl⟩
  refine ⟨?_, hx⟩
  by_cases h0 : k = 0
  · exact h0
  · have h1 := (hR.good 0 (by omega)).en
    have h2 : (itV C I 0 (X1 C fuel)).1.en = (X1 C fuel).1.en := rfl
    rw [h2] at h1
    omega
theorem Ans.foot (h : Ans C I fuel er po en rt fu L s t Mk) : (er ≠ 0 → en = 0 ∧ rt = 0 ∧ L = [] ∧ fu = fuel) ∧ (er = 0 → fuel ≤ 0 → (en = 22 ∨ en = 24) ∧ rt = 0 ∧ L = [] ∧ fu = fuel) := by
  rcases h with ⟨_, _, rfl, _, k, hR, rfl, rfl, rfl, rfl, _⟩ | ⟨_, rfl, _, rfl, rfl, rfl, rfl⟩ | ⟨_, _, rfl, _, rfl, rfl, rfl, rfl⟩
  · refine ⟨fun h => absurd rfl h, fun _ hf => ?_⟩
    obtain ⟨rfl, h1, h2, h3, h4, _⟩ := run_no hR hf
    exact ⟨h1, h2, h3, h4⟩
  · exact ⟨fun _ => ⟨rfl, rfl, rfl, rfl⟩, fun h => absurd h (by decide)⟩
  · exact ⟨fun _ => ⟨rfl, rfl, rfl, rfl⟩, fun h => absurd h (by decide)⟩
theorem Ans.idle (h : Ans C I fuel er po en rt fu L s t Mk) (h0 : er = 0) (hf : fuel ≤ 0) : s = 0 ∧ t = 0 := by
  rcases h with ⟨_, _, _, _, k, hR, _, _, _, _, rfl, rfl, _⟩ | ⟨_, rfl, _⟩ | ⟨_, _, rfl, _⟩
  · obtain ⟨rfl, _, _, _, _, h5, h6⟩ := run_no hR hf
    exact ⟨h5, h6⟩
  · cases h0
  · cases h0
theorem Ans.le (h : Ans C I fuel er po en rt fu L s t Mk) : L.length ≤ 1024 ∧ (er = 0 → MInv Mk ∧ Mk.rt.length ≤ 24) := by
  rcases h with ⟨_, _, _, _, k, hR, _, _, _, rfl, _, _, rfl⟩ | ⟨_, rfl, _, _, _, _, rfl⟩ | ⟨_, _, rfl, _, _, _, _, rfl⟩
  · exact ⟨hR.ok.ou, fun _ => ⟨hR.ok.mi, hR.ok.d24⟩⟩
  · exact ⟨Nat.zero_le _, fun h => by cases h⟩
  · exact ⟨Nat.zero_le _, fun h => by cases h⟩
/-- Run of the real machine. -/
structure RunA (w w' : World) (A : Va) (C : List Nat) (I : List Int) (fuel : Int) (S : HS) (s : Int) (t : Nat) (cv iv : Value) (er po en rt fu : Int) (L : List Int) (v : Value) (S' : HS) (s' : Int) (t' : Nat) (cv' iv' : Value) (Mk : MS) : Prop where
  ans : Ans C I fuel er po en rt fu L s' t' Mk
  R : RI w' A S' s' t' cv' iv'
  ok : er = 0 → Rel S' Mk
  no : er ≠ 0 → S' = S ∧ s' = s ∧ t' = t
  K : KiX w' v L
  vb : ∀ b, isB v b → w.heap.size ≤ b ∧ ¬ isB cv' b ∧ ¬ isB iv' b
  cb : ∀ b, isB cv' b → w.heap.size ≤ b ∨ isB cv b
  ib : ∀ b, isB iv' b → w.heap.size ≤ b ∨ isB iv b
  fr : Fr (VQ A cv iv) w w'
theorem runA (H : RI w A S s t cv iv) (hx : BRd w xv C) (hy : KiAt w yv I) (hcb : ∀ i, byteAt C i < 256) (hxd : ∀ b, isB xv b → ¬ VQ A cv iv b) (hyd : ∀ b, isB yv b → ¬ VQ A cv iv b) (hfu : fuel ≤ 9223372036854775807) :
    Calls Tryz.prog 26 #[.pointer (some ⟨A.m, 0, none⟩), xv, yv, .int .i64 fuel] w fun e w' => ∃ er po en rt fu L v S' s' t' cv' iv' Mk, e = .returned (resV er po en rt v fu) ∧ RunA w w' A C I fuel S s t cv iv er po en rt fu L v S' s' t' cv' iv' Mk := by
  by_cases hC : 4096 < C.length
  · obtain ⟨xa, xc, rfl, _⟩ := hx.sl
    refine (run_long hC).mono ?_
    rintro e w' ⟨rfl, k⟩
    exact ⟨31, 4096, 0, 0, fuel, [], nilS, S, s, t, cv, iv, ⟨[], []⟩, rfl, .inr (.inl ⟨hC, rfl, rfl, rfl, rfl, rfl, rfl⟩), H.same k, fun h => (by cases h), fun _ => ⟨rfl, rfl, rfl⟩, .inl ⟨rfl, rfl⟩, fun b hb => absurd hb (nil_noB b), fun b hb => .inr hb, fun b hb => .inr hb, k.mono (fun _ _ h => h.elim)⟩
  by_cases hI : 128 < I.length
  · obtain ⟨xa, xc, rfl, _⟩ := hx.sl
    obtain ⟨ya, yc, rfl, _⟩ := hy.sl
    refine (run_inp (by omega) hI).mono ?_
    rintro e w' ⟨rfl, k⟩
    exact ⟨32, 128, 0, 0, fuel, [], nilS, S, s, t, cv, iv, ⟨[], []⟩, rfl, .inr (.inr ⟨by omega, hI, rfl, rfl, rfl, rfl, rfl, rfl⟩), H.same k, fun h => (by cases h), fun _ => ⟨rfl, rfl, rfl⟩, .inl ⟨rfl, rfl⟩, fun b hb => absurd hb (nil_noB b), fun b hb => .inr hb, fun b hb => .inr hb, k.mono (fun _ _ h => h.elim)⟩
  obtain ⟨C0, I0, V, st, G, nf, R, _⟩ := H.ex
  obtain ⟨Mx, hRel⟩ := H.rel
  refine (runF R hRel hx hy (by omega) (by omega) hcb hxd hyd fuel hfu).mono ?_
  rintro e w' ⟨k, hR, S', st', G', nf', cv', iv', ov', rfl, R', rel', K', b1, fr', b2, b3⟩
  have hok := hR.ok
  have hlen : (itV C I k (X1 C fuel)).2.rt.length = S'.top := rel'.len
  refine ⟨_, _, _, _, _, _, ov', S', _, _, cv', iv', _, rfl, .inl ⟨by omega, by omega, rfl, rfl, k, hR, rfl, rfl, rfl, rfl, rfl, rfl, rfl⟩, ⟨⟨C, I, _, st', G', nf', R', rfl, rfl, hok.us, hok.ms, hok.pc, hok.ip, hok.rt, .inr ?_⟩, ⟨_, rel'⟩⟩, fun _ => rel', fun h => absurd rfl h, K', b1, b2, b3, fr'⟩
  rw [← hlen]
  exact hok.ch
/-- Run of the model. -/
structure RunB (w w' : World) (m hm : Nat) (O : Nat → Prop) (M : MS) (sm tm er : Int) (L : List Int) (v : Value) (s' : Int) (t' : Nat) (Mk : MS) (M' : MS) (sm' tm' : Int) (O' : Nat → Prop) : Prop where
  X : MX w' m hm M' sm' tm' O'
  ok : er = 0 → M' = Mk ∧ sm' = s' ∧ tm' = (t' : Nat)
  no : er ≠ 0 → M' = M ∧ sm' = sm ∧ tm' = tm
  K : KiX w' v L
  vb : ∀ b, isB v b → w.heap.size ≤ b ∧ ¬ O' b
  ob : ∀ c, O' c → O c ∨ w.heap.size ≤ c
  fr : Fr (fun c => c = m ∨ O c) w w'
theorem runB (H : MX w m hm M sm tm O) (h24 : M.rt.length ≤ 24) (hx : BRd w xv C) (hy : KiAt w yv I) (hcb : ∀ i, byteAt C i < 256) (hxd : ∀ b, isB xv b → ¬ O b) (hyd : ∀ b, isB yv b → ¬ O b) (hfu : fuel ≤ 9223372036854775807) (ha : Ans C I fuel er po en rt fu L s t Mk) :
    Calls Tryz.prog 27 #[.pointer (some ⟨m, 0, none⟩), xv, yv, .int .i64 fuel] w fun e w' => ∃ v M' sm' tm' O', e = .returned (resV er po en rt v fu) ∧ RunB w w' m hm O M sm tm er L v s t Mk M' sm' tm' O' := by
  rcases ha with ⟨hC, hI, rfl, rfl, k, hR, rfl, rfl, rfl, rfl, rfl, rfl, rfl⟩ | ⟨hC, rfl, rfl, rfl, rfl, rfl, rfl⟩ | ⟨hC, hI, rfl, rfl, rfl, rfl, rfl, rfl⟩
  · refine (runXF H h24 hx hy hC hI hcb hxd hyd hfu hR).mono ?_
    rintro e w' ⟨ov', O', rfl, K, b1, X, b2, f⟩
    exact ⟨ov', _, _, _, O', rfl, X, fun _ => ⟨rfl, rfl, rfl⟩, fun h => absurd rfl h, K, b1, b2, f⟩
  · obtain ⟨xa, xc, rfl, _⟩ := hx.sl
    refine (runX_long hC).mono ?_
    rintro e w' ⟨rfl, k⟩
    exact ⟨nilS, M, sm, tm, O, rfl, H.same k, fun h => (by cases h), fun _ => ⟨rfl, rfl, rfl⟩, .inl ⟨rfl, rfl⟩, fun b hb => absurd hb (nil_noB b), fun c hc => .inl hc, k.mono (fun _ _ h => h.elim)⟩
  · obtain ⟨xa, xc, rfl, _⟩ := hx.sl
    obtain ⟨ya, yc, rfl, _⟩ := hy.sl
    refine (runX_inp hC hI).mono ?_
    rintro e w' ⟨rfl, k⟩
    exact ⟨nilS, M, sm, tm, O, rfl, H.same k, fun h => (by cases h), fun _ => ⟨rfl, rfl, rfl⟩, .inl ⟨rfl, rfl⟩, fun b hb => absurd hb (nil_noB b), fun c hc => .inl hc, k.mono (fun _ _ h => h.elim)⟩
end
end Go.Proofs.Qxb6500281aGreat
