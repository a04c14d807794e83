/- The model heap in memory. -/
import Derived.Test.Qxb6500277aGreatKI1
namespace Go.Proofs.Qxb6500277aGreat
open Go Go.RowKit

def mc (ov rv : Value) (o : Nat) : Value := match o with | 0 => ov | _ => rv
/-- The slices that the model owns: the slots, the objects, and each object's two lists. -/
def vl (ov rv : Value) (f : Nat → Value) (p : Nat) : Value := match p with | 0 => rv | 1 => ov | j + 2 => f j
def OA (w : World) (ov : Value) (n : Nat) (f : Nat → Value) : Prop := (ov = .slice none 0 0 ∧ n = 0) ∨ ∃ b cap, ov = .slice (some ⟨b, 0, none⟩) n cap ∧ n ≤ cap ∧ Blk w b (cap * 2) f
structure MV (w : World) (m : Nat) (M : MS) (O : Nat → Prop) (ov rv : Value) (f : Nat → Value) : Prop where
  blk : Blk w m 2 (mc ov rv)
  rt : KiAt w rv M.rt
  ob : OA w ov M.objs.length f
  fl : ∀ i (h : i < M.objs.length), KiAt w (f (2 * i)) M.objs[i].1 ∧ KiAt w (f (2 * i + 1)) M.objs[i].2
  ap : ∀ p q c, p < 2 + 2 * M.objs.length → q < 2 + 2 * M.objs.length → isB (vl ov rv f p) c → isB (vl ov rv f q) c → p = q
  own : ∀ p c, p < 2 + 2 * M.objs.length → isB (vl ov rv f p) c → O c ∧ c ≠ m
  om : O m
  lt : ∀ c, O c → c < w.heap.size
  nn : ∀ i, i < M.objs.length → ∃ b n c, f (2 * i + 1) = .slice (some ⟨b, 0, none⟩) n c
def MM (w : World) (m : Nat) (M : MS) (O : Nat → Prop) : Prop := ∃ ov rv f, MV w m M O ov rv f
section
variable {w w' : World} {m : Nat} {M : MS} {O O' S : Nat → Prop} {ov rv : Value} {f : Nat → Value}
theorem OA.frame {n : Nat} (h : OA w ov n f) (k : Fr S w w') (hb : ∀ b, isB ov b → ¬ S b) : OA w' ov n f := by
  rcases h with h | ⟨b, cap, rfl, h1, h2⟩
  · exact .inl h
  · exact .inr ⟨b, cap, rfl, h1, h2.frame k (hb b ⟨_, _, rfl⟩)⟩
theorem MV.frame (V : MV w m M O ov rv f) (k : Fr S w w') (hS : ∀ c, O c → ¬ S c) : MV w' m M O ov rv f := by
  have hv : ∀ p, p < 2 + 2 * M.objs.length → ∀ c, isB (vl ov rv f p) c → ¬ S c := fun p hp c hc => hS c (V.own p c hp hc).1
  refine ⟨V.blk.frame k (hS m V.om), V.rt.frame k (hv 0 (by omega)), V.ob.frame k (hv 1 (by omega)), fun i hi => ?_, V.ap, V.own, V.om, fun c hc => by have := V.lt c hc; have := k.size; omega, V.nn⟩
  obtain ⟨h1, h2⟩ := V.fl i hi
  exact ⟨h1.frame k (hv (2 * i + 2) (by omega)), h2.frame k (hv (2 * i + 1 + 2) (by omega))⟩
theorem MM.frame (h : MM w m M O) (k : Fr S w w') (hS : ∀ c, O c → ¬ S c) : MM w' m M O := by
  obtain ⟨ov, rv, f, V⟩ := h
  exact ⟨ov, rv, f, V.frame k hS⟩
theorem MM.same (h : MM w m M O) (k : Fr (fun _ => False) w w') : MM w' m M O := h.frame k (fun _ _ h => h)
theorem MV.up (V : MV w m M O ov rv f) (h1 : ∀ c, O c → O' c) (h2 : ∀ c, O' c → c < w.heap.size) : MV w m M O' ov rv f :=
  ⟨V.blk, V.rt, V.ob, V.fl, V.ap, fun p c hp hc => ⟨h1 c (V.own p c hp hc).1, (V.own p c hp hc).2⟩, h1 m V.om, h2, V.nn⟩
theorem MV.cells (V : MV w m M O ov rv f) : w.cell? ⟨m, 0, none⟩ = some ov ∧ w.cell? ⟨m, 1, none⟩ = some rv ∧ m < w.heap.size ∧ (∀ o, w.frozen? ⟨m, o, none⟩ = false) :=
  ⟨V.blk.cell (by omega), V.blk.cell (by omega), V.blk.lt, V.blk.frozen⟩
/-- The object x. -/
theorem MV.obj (V : MV w m M O ov rv f) {x : Nat} (hx : x < M.objs.length) : ∃ b cap, ov = .slice (some ⟨b, 0, none⟩) M.objs.length cap ∧ b < w.heap.size ∧ w.cell? ⟨b, x * 2, none⟩ = some (f (2 * x)) ∧ w.cell? ⟨b, x * 2 + 1, none⟩ = some (f (2 * x + 1)) := by
  rcases V.ob with ⟨_, h0⟩ | ⟨b, cap, rfl, h1, h2⟩
  · omega
  · refine ⟨b, cap, rfl, h2.lt, ?_, ?_⟩
    · rw [h2.cell (by omega)]; congr 2; omega
    · rw [h2.cell (by omega)]; congr 2; omega
/-- A number of one of the lists is written. -/
theorem KiAt.set {v : Value} {q : List Int} (h : KiAt w v q) {i : Nat} (hi : i < q.length) : ∃ b c, v = .slice (some ⟨b, 0, none⟩) q.length c ∧ q.length ≤ c ∧ b < w.heap.size ∧ w.cell? ⟨b, i, none⟩ = some (.int .i64 q[i]) ∧ w.frozen? ⟨b, i, none⟩ = false ∧ ∀ x, KiAt (w.setCell ⟨b, i, none⟩ (.int .i64 x)) v (q.set i x) := by
  rcases h with ⟨rfl, rfl⟩ | ⟨b, cap, g, rfl, hc, hbk, hf⟩
  · cases hi
  · refine ⟨b, cap, rfl, hc, hbk.lt, by rw [hbk.cell (by omega), hf i hi], hbk.frozen _, fun x => .inr ⟨b, cap, _, by simp, by simpa using hc, hbk.set i (.int .i64 x), fun j hj => ?_⟩⟩
    simp only [List.length_set] at hj
    simp only [upd, List.getElem_set]
    by_cases e : j = i
    · rw [if_pos e, if_pos e.symm]
    · rw [if_neg e, if_neg (Ne.symm e)]; exact hf j hj
/-- The blocks other than B stand. -/
theorem MV.one {B : Nat} (V : MV w m M O ov rv f) {p : Nat} (hp : p < 2 + 2 * M.objs.length) (hB : isB (vl ov rv f p) B) : ∀ q, q < 2 + 2 * M.objs.length → q ≠ p → ∀ v, v = vl ov rv f q → ∀ c, isB v c → c ≠ B := fun q hq hn v hv c hc e => by
  subst hv e
  exact hn (V.ap q p c hq hp hc hB)
/-- Slot i is written. -/
theorem MV.setRt (V : MV w m M O ov rv f) {i : Nat} (hi : i < M.rt.length) : ∃ b c, rv = .slice (some ⟨b, 0, none⟩) M.rt.length c ∧ M.rt.length ≤ c ∧ b < w.heap.size ∧ O b ∧ b ≠ m ∧ w.cell? ⟨b, i, none⟩ = some (.int .i64 M.rt[i]) ∧ w.frozen? ⟨b, i, none⟩ = false ∧ ∀ x, MV (w.setCell ⟨b, i, none⟩ (.int .i64 x)) m { M with rt := M.rt.set i x } O ov rv f := by
  obtain ⟨b, c, h1, h2, h3, h4, h5, h6⟩ := V.rt.set hi
  have hB : isB (vl ov rv f 0) b := ⟨_, _, h1⟩
  obtain ⟨ho, hm⟩ := V.own 0 b (by omega) hB
  refine ⟨b, c, h1, h2, h3, ho, hm, h4, h5, fun x => ?_⟩
  have k := (Fr.refl (fun c => c = b) w).setC b i (.int .i64 x) (fun _ => rfl)
  have on := V.one (p := 0) (by omega) hB
  refine ⟨V.blk.frame k (Ne.symm hm), h6 x, V.ob.frame k (on 1 (by omega) (by omega) _ rfl), fun j hj => ?_, V.ap, V.own, V.om, fun c hc => by have := V.lt c hc; have := k.size; omega, V.nn⟩
  have hj : j < M.objs.length := hj
  obtain ⟨g1, g2⟩ := V.fl j hj
  exact ⟨g1.frame k (on (2 * j + 2) (by omega) (by omega) _ rfl), g2.frame k (on (2 * j + 1 + 2) (by omega) (by omega) _ rfl)⟩
/-- The slots' slice is cut or grown within the same block or a new one. -/
theorem MV.newRt {rv' : Value} {l : List Int} (V : MV w m M O ov rv f) (hk : KiAt w rv' l) (hb : ∀ c, isB rv' c → isB rv c) : MV (w.setCell ⟨m, 1, none⟩ rv') m { M with rt := l } O ov rv' f := by
  have k := (Fr.refl (fun c => c = m) w).setC m 1 rv' (fun _ => rfl)
  have nm : ∀ p, p < 2 + 2 * M.objs.length → ∀ v, v = vl ov rv f p → ∀ c, isB v c → ¬ c = m := fun p hp v hv c hc => by subst hv; exact (V.own p c hp hc).2
  have hv : ∀ p c, p < 2 + 2 * M.objs.length → isB (vl ov rv' f p) c → isB (vl ov rv f p) c := fun p c _ hc => by
    match p with
    | 0 => exact hb c hc
    | 1 => exact hc
    | _ + 2 => exact hc
  refine ⟨(V.blk.set 1 rv').congr (fun o ho => ?_), hk.frame k (fun c hc => nm 0 (by omega) _ rfl c (hb c hc)), V.ob.frame k (nm 1 (by omega) _ rfl), fun j hj => ?_, fun p q c hp hq h1 h2 => V.ap p q c hp hq (hv p c hp h1) (hv q c hq h2), fun p c hp hc => V.own p c hp (hv p c hp hc), V.om, fun c hc => by have := V.lt c hc; have := k.size; omega, V.nn⟩
  · obtain rfl | rfl : o = 0 ∨ o = 1 := by omega
    all_goals simp [upd, mc]
  · have hj : j < M.objs.length := hj
    obtain ⟨g1, g2⟩ := V.fl j hj
    exact ⟨g1.frame k (nm (2 * j + 2) (by omega) _ rfl), g2.frame k (nm (2 * j + 1 + 2) (by omega) _ rfl)⟩
/-- An int field of object x is written. -/
theorem MV.setInt (V : MV w m M O ov rv f) {x i : Nat} (hx : x < M.objs.length) (hi : i < M.objs[x].2.length) : ∃ b c, f (2 * x + 1) = .slice (some ⟨b, 0, none⟩) M.objs[x].2.length c ∧ M.objs[x].2.length ≤ c ∧ b < w.heap.size ∧ O b ∧ b ≠ m ∧ w.cell? ⟨b, i, none⟩ = some (.int .i64 M.objs[x].2[i]) ∧ w.frozen? ⟨b, i, none⟩ = false ∧ ∀ v, MV (w.setCell ⟨b, i, none⟩ (.int .i64 v)) m { M with objs := M.objs.set x (M.objs[x].1, M.objs[x].2.set i v) } O ov rv f := by
  obtain ⟨b, c, h1, h2, h3, h4, h5, h6⟩ := (V.fl x hx).2.set hi
  have hB : isB (vl ov rv f (2 * x + 1 + 2)) b := ⟨_, _, h1⟩
  obtain ⟨ho, hm⟩ := V.own _ b (by omega) hB
  refine ⟨b, c, h1, h2, h3, ho, hm, h4, h5, fun v => ?_⟩
  have k := (Fr.refl (fun c => c = b) w).setC b i (.int .i64 v) (fun _ => rfl)
  have on := V.one (p := 2 * x + 1 + 2) (by omega) hB
  refine ⟨V.blk.frame k (Ne.symm hm), V.rt.frame k (on 0 (by omega) (by omega) _ rfl), by simpa using V.ob.frame k (on 1 (by omega) (by omega) _ rfl), fun j hj => ?_, by simpa using V.ap, by simpa using V.own, V.om, fun c hc => by have := V.lt c hc; have := k.size; omega, by simpa using V.nn⟩
  simp only [List.length_set] at hj
  obtain ⟨g1, g2⟩ := V.fl j hj
  simp only [List.getElem_set]
  by_cases e : x = j
  · subst e
    simp only [if_true]
    exact ⟨g1.frame k (on (2 * x + 2) (by omega) (by omega) _ rfl), h6 v⟩
  · rw [if_neg e]
    exact ⟨g1.frame k (on (2 * j + 2) (by omega) (by omega) _ rfl), g2.frame k (on (2 * j + 1 + 2) (by omega) (by omega) _ rfl)⟩
/-- A ref field of object x is written. -/
theorem MV.setRef (V : MV w m M O ov rv f) {x i : Nat} (hx : x < M.objs.length) (hi : i < M.objs[x].1.length) : ∃ b c, f (2 * x) = .slice (some ⟨b, 0, none⟩) M.objs[x].1.length c ∧ M.objs[x].1.length ≤ c ∧ b < w.heap.size ∧ O b ∧ b ≠ m ∧ w.cell? ⟨b, i, none⟩ = some (.int .i64 M.objs[x].1[i]) ∧ w.frozen? ⟨b, i, none⟩ = false ∧ ∀ v, MV (w.setCell ⟨b, i, none⟩ (.int .i64 v)) m { M with objs := M.objs.set x (M.objs[x].1.set i v, M.objs[x].2) } O ov rv f := by
  obtain ⟨b, c, h1, h2, h3, h4, h5, h6⟩ := (V.fl x hx).1.set hi
  have hB : isB (vl ov rv f (2 * x + 2)) b := ⟨_, _, h1⟩
  obtain ⟨ho, hm⟩ := V.own _ b (by omega) hB
  refine ⟨b, c, h1, h2, h3, ho, hm, h4, h5, fun v => ?_⟩
  have k := (Fr.refl (fun c => c = b) w).setC b i (.int .i64 v) (fun _ => rfl)
  have on := V.one (p := 2 * x + 2) (by omega) hB
  refine ⟨V.blk.frame k (Ne.symm hm), V.rt.frame k (on 0 (by omega) (by omega) _ rfl), by simpa using V.ob.frame k (on 1 (by omega) (by omega) _ rfl), fun j hj => ?_, by simpa using V.ap, by simpa using V.own, V.om, fun c hc => by have := V.lt c hc; have := k.size; omega, by simpa using V.nn⟩
  simp only [List.length_set] at hj
  obtain ⟨g1, g2⟩ := V.fl j hj
  simp only [List.getElem_set]
  by_cases e : x = j
  · subst e
    simp only [if_true]
    exact ⟨h6 v, g2.frame k (on (2 * x + 1 + 2) (by omega) (by omega) _ rfl)⟩
  · rw [if_neg e]
    exact ⟨g1.frame k (on (2 * j + 2) (by omega) (by omega) _ rfl), g2.frame k (on (2 * j + 1 + 2) (by omega) (by omega) _ rfl)⟩
end
end Go.Proofs.Qxb6500277aGreat
