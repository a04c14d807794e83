/- The law's invariant. -/
import Derived.Test.Qxb6500285aGreatE1
import Derived.Test.Qxb6500285aGreatE5
import Derived.Test.Qxb6500285aGreatLA3
namespace Go.Proofs.Qxb6500285aGreat
open Go Go.RowKit

/-- Where all lies: lo, the engine's blocks, the model's, the desk d, the box of the lower layers bb. -/
structure Ad where
  lo : Nat
  e : Nat
  sm : Nat
  x : Nat
  pk : Nat
  df : Nat
  m : Nat
  sx : Nat
  mc : Nat
  sp : Nat
  d : Nat
  bb : Nat
def Ad.eo (A : Ad) (c : Nat) : Prop := EO A.e A.sm A.x A.pk A.df c
def Ad.mo (A : Ad) (c : Nat) : Prop := MO A.m A.sx A.mc A.sp c
/-- The blocks of the desk's lists. -/
def LB (D : Dk) (c : Nat) : Prop := isBlk D.lx c ∨ isBlk D.lm c ∨ ∃ k, k < 4 ∧ isBlk (D.old k) c
def LX (A : Ad) (Y : Nat → Prop) (D : Dk) (c : Nat) : Prop := c = A.d ∨ c = A.bb ∨ A.mo c ∨ LB D c ∨ Y c
def bbCell (A : Ad) (o : Nat) : Value := match o with | 0 => .pointer (some ⟨A.sm, 0, none⟩) | 1 => .pointer (some ⟨A.pk, 0, none⟩) | _ => .pointer (some ⟨A.df, 0, none⟩)
structure Law (w : World) (A : Ad) (Y : Nat → Prop) (D : Dk) (ns : List In) (g h n : Nat) : Prop where
  eng : ∃ a b, Eng (LX A Y D) w A.e A.sm A.x A.pk A.df a b g
  me : ME w A.m A.sx A.mc A.sp h h
  dk : Blk w A.d 23 (dkCell D)
  bx : Blk w A.bb 3 (bbCell A)
  lx : LVi w D.lx ns
  lm : LVi w D.lm ns
  hl : ns.length ≤ 64
  old : Old4 w D
  far : ∀ c, LB D c ∨ Y c → A.d < c
  ap : ∀ c, isBlk D.lx c → ∀ k, k < 4 → ¬ isBlk (D.old k) c
  yl : ∀ c, Y c → ¬ LB D c
  ord : A.lo ≤ A.x ∧ A.df + 3 ≤ A.bb ∧ A.bb < A.e ∧ A.e < A.sx ∧ A.m < A.d
  nb : D.n ≤ n
  pt : D.pat.size ≤ 129
  sb : D.sub.size ≤ 257
  kn : D.kn ≤ 2
section
variable {w w' : World} {A : Ad} {Y : Nat → Prop} {D : Dk} {ns : List In} {g h n : Nat}
theorem Law.lt (L : Law w A Y D ns g h n) {c : Nat} (hc : LX A Y D c) : c < w.heap.size := by
  obtain ⟨a, b, hE⟩ := L.eng
  exact hE.xlt hc
theorem Law.elt (L : Law w A Y D ns g h n) {c : Nat} (hc : A.eo c) : c < w.heap.size := by
  obtain ⟨a, b, hE⟩ := L.eng
  exact hE.lt hc
theorem Law.xe (L : Law w A Y D ns g h n) {c : Nat} (hc : LX A Y D c) : ¬ A.eo c := by
  obtain ⟨a, b, hE⟩ := L.eng
  exact hE.xf c hc
/-- What a call that writes in the engine leaves. -/
theorem Law.ofE {g' : Nat} {Y' : Nat → Prop} {a b : Ent} (L : Law w A Y D ns g h n) (k : Fr A.eo w w') (hE : Eng (fun c => LX A Y D c ∨ Y' c) w' A.e A.sm A.x A.pk A.df a b g') (hY : ∀ c, Y' c → w.heap.size ≤ c) : Law w' A (fun c => Y c ∨ Y' c) D ns g' h n := by
  have hx : ∀ c, LX A Y D c → ¬ A.eo c := fun c hc => L.xe hc
  have hLB : ∀ c, LB D c → ¬ A.eo c := fun c hc => hx c (.inr (.inr (.inr (.inl hc))))
  have dl := L.lt (c := A.d) (.inl rfl)
  refine ⟨⟨a, b, hE.sub (fun c hc => ?_)⟩, L.me.frame k (fun c hc => hx c (.inr (.inr (.inl hc)))), L.dk.frame k (hx _ (.inl rfl)), L.bx.frame k (hx _ (.inr (.inl rfl))), L.lx.frame k (fun c hc => hLB c (.inl hc)), L.lm.frame k (fun c hc => hLB c (.inr (.inl hc))), L.hl, L.old.frame k (fun i hi c hc => hLB c (.inr (.inr ⟨i, hi, hc⟩))), ?_, L.ap, ?_, L.ord, L.nb, L.pt, L.sb, L.kn⟩
  · rcases hc with hc | hc | hc | hc | hc | hc
    · exact .inl (.inl hc)
    · exact .inl (.inr (.inl hc))
    · exact .inl (.inr (.inr (.inl hc)))
    · exact .inl (.inr (.inr (.inr (.inl hc))))
    · exact .inl (.inr (.inr (.inr (.inr hc))))
    · exact .inr hc
  · rintro c (hc | hc | hc)
    · exact L.far c (.inl hc)
    · exact L.far c (.inr hc)
    · have := hY c hc; omega
  · rintro c (hc | hc) hb
    · exact L.yl c hc hb
    · have := hY c hc
      have := L.lt (.inr (.inr (.inr (.inl hb))))
      omega
theorem Law.ofE0 {g' : Nat} {a b : Ent} (L : Law w A Y D ns g h n) (k : Fr A.eo w w') (hE : Eng (LX A Y D) w' A.e A.sm A.x A.pk A.df a b g') : Law w' A Y D ns g' h n := by
  have := L.ofE (Y' := fun _ => False) k (hE.sub (fun c hc => hc.elim id (fun h => h.elim))) (fun _ h => h.elim)
  have e : (fun c => Y c ∨ False) = Y := by funext c; simp
  rwa [e] at this
theorem Law.step {S : Nat → Prop} {h' : Nat} (L : Law w A Y D ns g h n) (k : Fr S w w') (hS : ∀ c, S c → LX A Y D c) (hD : ¬ S A.d) (hB : ¬ S A.bb) (hL : ∀ c, LB D c → ¬ S c) (hM : ME w' A.m A.sx A.mc A.sp h' h') : Law w' A Y D ns g h' n := by
  obtain ⟨a, b, hE⟩ := L.eng
  exact ⟨⟨a, b, hE.step k (fun c hc => .inl (hS c hc)) (fun c hc => .inl hc)⟩, hM, L.dk.frame k hD, L.bx.frame k hB, L.lx.frame k (fun c hc => hL c (.inl hc)), L.lm.frame k (fun c hc => hL c (.inr (.inl hc))), L.hl, L.old.frame k (fun i hi c hc => hL c (.inr (.inr ⟨i, hi, hc⟩))), L.far, L.ap, L.yl, L.ord, L.nb, L.pt, L.sb, L.kn⟩
theorem Law.mlt (L : Law w A Y D ns g h n) {c : Nat} (hc : A.mo c) : A.bb < c ∧ c < A.d := by
  have h1 := L.me.ap
  have h2 := L.ord
  unfold Ad.mo MO at hc
  omega
theorem Law.ofM {h' : Nat} (L : Law w A Y D ns g h n) (k : Fr A.mo w w') (hM : ME w' A.m A.sx A.mc A.sp h' h') : Law w' A Y D ns g h' n :=
  L.step k (fun c hc => .inr (.inr (.inl hc))) (fun hc => by have := L.mlt hc; omega) (fun hc => by have := L.mlt hc; omega) (fun c hb hc => by have := L.mlt hc; have := L.far c (.inl hb); omega) hM
theorem Law.same (L : Law w A Y D ns g h n) (k : Fr (fun _ => False) w w') : Law w' A Y D ns g h n :=
  L.step k (fun _ h => h.elim) (fun h => h) (fun h => h) (fun _ _ h => h) (L.me.frame k (fun _ _ h => h))
theorem Law.le {g' h' n' : Nat} (L : Law w A Y D ns g h n) (h1 : g ≤ g') (h2 : h ≤ h') (h3 : n ≤ n') : Law w A Y D ns g' h' n' := by
  obtain ⟨a, b, hE⟩ := L.eng
  exact ⟨⟨a, b, hE.le h1⟩, L.me.le h2 h2, L.dk, L.bx, L.lx, L.lm, L.hl, L.old, L.far, L.ap, L.yl, L.ord, by have := L.nb; omega, L.pt, L.sb, L.kn⟩
/-- The desk is written, its lists stay. -/
theorem Law.ofD {D' : Dk} (L : Law w A Y D ns g h n) (k : Fr (fun c => c = A.d) w w') (hd : Blk w' A.d 23 (dkCell D')) (e1 : D'.lx = D.lx) (e2 : D'.lm = D.lm) (e3 : D'.old = D.old) (e4 : D'.n = D.n) (h1 : D'.pat.size ≤ 129) (h2 : D'.sub.size ≤ 257) (h3 : D'.kn ≤ 2) : Law w' A Y D' ns g h n := by
  obtain ⟨a, b, hE⟩ := L.eng
  have eL : ∀ c, LB D' c ↔ LB D c := fun c => by unfold LB; rw [e1, e2, e3]
  have hLd : ∀ c, LB D c → ¬ c = A.d := fun c hb e => by have := L.far c (.inl hb); omega
  refine ⟨⟨a, b, hE.step k (fun c hc => .inl (.inl hc)) (fun c hc => .inl ?_)⟩, L.me.frame k (fun c hc e => by have := L.mlt hc; omega), hd, L.bx.frame k (by have := L.ord; have := L.me.ap; omega), ?_, ?_, L.hl, ?_, ?_, ?_, ?_, L.ord, by rw [e4]; exact L.nb, h1, h2, h3⟩
  · unfold LX at hc ⊢
    rwa [eL] at hc
  · rw [e1]; exact L.lx.frame k (fun c hc => hLd c (.inl hc))
  · rw [e2]; exact L.lm.frame k (fun c hc => hLd c (.inr (.inl hc)))
  · intro i hi
    rw [e3]
    exact L.old.frame k (fun i hi c hc => hLd c (.inr (.inr ⟨i, hi, hc⟩))) i hi
  · intro c hc; rw [eL] at hc; exact L.far c hc
  · rw [e1, e3]; exact L.ap
  · intro c hc; rw [eL]; exact L.yl c hc
/-- What Again leaves. -/
theorem Law.ag {v : Ending} (L : Law w A Y D ns g h n) (hA : AgPost w A.d D v w') : v = .returned (.bool true) ∧ Fr (fun c => A.lo ≤ c) w w' ∧ (∀ c, Y c → c < w.heap.size) ∧ Fr (fun c => c = A.d ∨ isBlk D.lx c) w w' ∧ ∃ D', Law w' A Y D' [] g h (n + 1) ∧ D'.lx = .slice none 0 0 ∧ D'.lm = .slice none 0 0 ∧ D'.pat = D.pat ∧ D'.sub = D.sub := by
  obtain ⟨rfl, k, D', hD', hd, ho⟩ := hA
  obtain ⟨a, b, hE⟩ := L.eng
  have o1 := L.ord
  have ap1 := L.me.ap
  have ap2 := hE.ap
  have hlo : ∀ c, c = A.d ∨ isBlk D.lx c → A.d ≤ c := fun c hc => hc.elim (fun e => by omega) (fun hb => by have := L.far c (.inl (.inl hb)); omega)
  have e1 : D'.lx = .slice none 0 0 := by rcases hD' with rfl | rfl <;> rfl
  have e2 : D'.lm = .slice none 0 0 := by rcases hD' with rfl | rfl <;> rfl
  have hLB : ∀ c, LB D' c → LB D c := by
    rintro c (hc | hc | ⟨i, hi, hc⟩)
    · rw [e1] at hc; exact absurd hc (noBlk c)
    · rw [e2] at hc; exact absurd hc (noBlk c)
    · rcases hD' with rfl | rfl
      · by_cases he : i = D.n % 4
        · rw [show (keepD D).old i = D.lx by simp [keepD, upd, he]] at hc; exact .inl hc
        · rw [show (keepD D).old i = D.old i by simp [keepD, upd, he]] at hc; exact .inr (.inr ⟨i, hi, hc⟩)
      · exact .inr (.inr ⟨i, hi, hc⟩)
  refine ⟨rfl, k.mono (fun c _ hc => by have := hlo c hc; omega), fun c hc => L.lt (.inr (.inr (.inr (.inr hc)))), k, D', ⟨⟨a, b, hE.step k (fun c hc => .inl (hc.elim .inl (fun hb => .inr (.inr (.inr (.inl (.inl hb))))))) (fun c hc => .inl ?_)⟩, L.me.frame k (fun c hc e => by have := L.mlt hc; have := hlo c e; omega), hd, L.bx.frame k (fun e => by have := hlo _ e; omega), .inl ⟨e1, rfl⟩, .inl ⟨e2, rfl⟩, by simp, ho, fun c hc => L.far c (hc.imp (hLB c) id), fun c hc => by rw [e1] at hc; exact absurd hc (noBlk c), fun c hc hb => L.yl c hc (hLB c hb), L.ord, ?_, ?_, ?_, ?_⟩, e1, e2, ?_, ?_⟩
  · rcases hc with hc | hc | hc | hc | hc
    · exact .inl hc
    · exact .inr (.inl hc)
    · exact .inr (.inr (.inl hc))
    · exact .inr (.inr (.inr (.inl (hLB c hc))))
    · exact .inr (.inr (.inr (.inr hc)))
  · have := L.nb; rcases hD' with rfl | rfl <;> simp [keepD, dropD] <;> omega
  · have := L.pt; rcases hD' with rfl | rfl <;> exact this
  · have := L.sb; rcases hD' with rfl | rfl <;> exact this
  · have := L.kn; rcases hD' with rfl | rfl <;> exact this
  · rcases hD' with rfl | rfl <;> rfl
  · rcases hD' with rfl | rfl <;> rfl
theorem Law.again (L : Law w A Y D ns g h n) (hn : n ≤ 10000000000000) : Calls Tryz.prog 37 #[.pointer (some ⟨A.d, 0, none⟩)] w (AgPost w A.d D) :=
  again_any L.dk L.lx L.lm L.hl L.old (fun c hc => ⟨fun e => by have := L.far c (.inl (.inl hc)); omega, L.ap c hc⟩) (fun k hk hc => by have := L.far A.d (.inl (.inr (.inr ⟨k, hk, hc⟩))); omega) (by have := L.nb; omega)
theorem Law.drop (L : Law w A Y D ns g h n) : Law w A (fun _ => False) D ns g h n := by
  obtain ⟨a, b, hE⟩ := L.eng
  exact ⟨⟨a, b, hE.sub (fun c hc => by
    rcases hc with hc | hc | hc | hc | hc
    · exact .inl hc
    · exact .inr (.inl hc)
    · exact .inr (.inr (.inl hc))
    · exact .inr (.inr (.inr (.inl hc)))
    · exact hc.elim)⟩, L.me, L.dk, L.bx, L.lx, L.lm, L.hl, L.old, fun c hc => hc.elim (fun h => L.far c (.inl h)) (fun h => h.elim), L.ap, fun _ h => h.elim, L.ord, L.nb, L.pt, L.sb, L.kn⟩
end
end Go.Proofs.Qxb6500285aGreat
