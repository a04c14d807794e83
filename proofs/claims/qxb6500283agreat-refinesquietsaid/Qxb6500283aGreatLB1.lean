/- The law of find: the invariant, Again. -/
import Derived.Test.Qxb6500283aGreatHL4
import Derived.Test.Qxb6500283aGreatHA5
import Derived.Test.Qxb6500283aGreatHG6
import Derived.Test.Qxb6500283aGreatHG4
namespace Go.Proofs.Qxb6500283aGreat
open Go Go.RowKit

def DB (D : Dk) (c : Nat) : Prop := isBk D.ax c ∨ isBk D.am c ∨ isBk D.cx c ∨ isBk D.cm c ∨ ∃ i, i < 4 ∧ (isBk (D.oa i) c ∨ isBk (D.oc i) c)
def LX (B : Ma) (d : Nat) (D : Dk) (Y : Nat → Prop) (c : Nat) : Prop := c = d ∨ B.mo c ∨ DB D c ∨ Y c
def nilS : Value := .slice none 0 0
theorem nil_no (b : Nat) : ¬ isBk (.slice none 0 0) b := fun hb => by obtain ⟨_, _, e⟩ := hb; cases e
structure Cln (D : Dk) : Prop where
  ax : D.ax = .slice none 0 0
  am : D.am = .slice none 0 0
  cx : D.cx = .slice none 0 0
  cm : D.cm = .slice none 0 0
def Las (w : World) (D : Dk) : Prop :=
  (∃ cs, LVc w D.ax cs ∧ CAt w D.am cs ∧ cs.length ≤ 258 ∧ D.cx = .slice none 0 0 ∧ XAt w D.cm []) ∨ ∃ xs, LVx w D.cx xs ∧ XAt w D.cm xs ∧ xs.length ≤ 258 ∧ D.ax = .slice none 0 0 ∧ CAt w D.am []
theorem Cln.las {D : Dk} (h : Cln D) (w : World) : Las w D := .inl ⟨[], .inl ⟨h.ax, rfl⟩, .inl ⟨rfl, _, _, h.am⟩, by simp, h.cx, .inl ⟨rfl, _, _, h.cm⟩⟩
theorem LVc.frame {S : Nat → Prop} {w w' : World} {v : Value} {cs : List (Nat → Int)} (h : LVc w v cs) (k : Fr S w w') (hb : ∀ b, isBk v b → ¬ S b) : LVc w' v cs := by
  rcases h with h | ⟨b, f, rfl, hB, hf⟩
  · exact .inl h
  · exact .inr ⟨b, f, rfl, hB.frame k (hb b ⟨_, _, rfl⟩), hf⟩
theorem LVx.frame {S : Nat → Prop} {w w' : World} {v : Value} {cs : List ByteArray} (h : LVx w v cs) (k : Fr S w w') (hb : ∀ b, isBk v b → ¬ S b) : LVx w' v cs := by
  rcases h with h | ⟨b, f, rfl, hB, hf⟩
  · exact .inl h
  · exact .inr ⟨b, f, rfl, hB.frame k (hb b ⟨_, _, rfl⟩), hf⟩
theorem Las.frame {S : Nat → Prop} {w w' : World} {D : Dk} (h : Las w D) (k : Fr S w w') (hb : ∀ b, DB D b → ¬ S b) : Las w' D := by
  rcases h with ⟨cs, h1, h2, h3, h4, h5⟩ | ⟨cs, h1, h2, h3, h4, h5⟩
  · exact .inl ⟨cs, h1.frame k (fun b h => hb b (.inl h)), h2.frame k (fun b h => hb b (.inr (.inl h))), h3, h4, h5.frame k (fun b h => hb b (.inr (.inr (.inr (.inl h)))))⟩
  · exact .inr ⟨cs, h1.frame k (fun b h => hb b (.inr (.inr (.inl h)))), h2.frame k (fun b h => hb b (.inr (.inr (.inr (.inl h))))), h3, h4, h5.frame k (fun b h => hb b (.inr (.inl h)))⟩
theorem DB.old {D : Dk} {c i : Nat} (hi : i < 4) (h : isBk (D.oa i) c ∨ isBk (D.oc i) c) : DB D c := .inr (.inr (.inr (.inr ⟨i, hi, h⟩)))
structure Law (w : World) (A : Fa) (B : Ma) (d : Nat) (Y : Nat → Prop) (D : Dk) (G K : Nat) : Prop where
  fnd : ∃ cs ps, Fnd (LX B d D Y) w A cs ps G
  md : Mod w B K
  dk : Blk w d 16 (dkCell D)
  old : OldOk w D
  bd : ∀ c, B.mo c → c < d
  far : ∀ c, DB D c ∨ Y c → d < c
  sep : ∀ c, isBk D.ax c ∨ isBk D.cx c → ∀ i, i < 4 → ¬ isBk (D.oa i) c ∧ ¬ isBk (D.oc i) c
  yd : ∀ c, Y c → ¬ DB D c
  las : Las w D
  na : D.na < 4
  nc : D.nc < 4
  sz : D.pat.size ≤ 9223372036854775807 ∧ D.sub.size ≤ 9223372036854775807
section
variable {w w' : World} {A : Fa} {B : Ma} {d : Nat} {Y : Nat → Prop} {D : Dk} {G K : Nat}
theorem Law.lt (L : Law w A B d Y D G K) {c : Nat} (hc : A.eo c ∨ A.fo c ∨ LX B d D Y c) : c < w.heap.size := by
  obtain ⟨_, _, h⟩ := L.fnd
  exact h.lt hc
theorem Law.xe (L : Law w A B d Y D G K) {c : Nat} (hc : LX B d D Y c) : ¬ (A.eo c ∨ A.fo c) := by
  obtain ⟨_, _, h⟩ := L.fnd
  exact fun hh => hh.elim (h.ef (.inr hc)) (h.xf c hc)
theorem Law.le (L : Law w A B d Y D G K) {G' K' : Nat} (hg : G ≤ G') (hk : K ≤ K') : Law w A B d Y D G' K' := by
  obtain ⟨cs, ps, h⟩ := L.fnd
  exact ⟨⟨cs, ps, h.le hg⟩, L.md.le hk, L.dk, L.old, L.bd, L.far, L.sep, L.yd, L.las, L.na, L.nc, L.sz⟩
/-- A part of the world outside the law's desk and lists turns. -/
theorem Law.gen {S Y' : Nat → Prop} {G' K' : Nat} (L : Law w A B d Y D G K) (k : Fr S w w') (hS : ∀ c, S c → ¬ (c = d ∨ DB D c)) (hF : ∃ cs ps, Fnd (LX B d D Y') w' A cs ps G') (hM : Mod w' B K') (hY : ∀ c, Y' c → Y c ∨ w.heap.size ≤ c) : Law w' A B d Y' D G' K' := by
  have hb : ∀ c, DB D c → ¬ S c := fun c hc hs => hS c hs (.inr hc)
  refine ⟨hF, hM, L.dk.frame k (fun hs => hS d hs (.inl rfl)), L.old.frame k (fun i hi b hb' => hb b (.old hi (.inl hb'))) (fun i hi b hb' => hb b (.old hi (.inr hb'))), L.bd, ?_, L.sep, ?_, L.las.frame k hb, L.na, L.nc, L.sz⟩
  · rintro c (hc | hc)
    · exact L.far c (.inl hc)
    · rcases hY c hc with h | h
      · exact L.far c (.inr h)
      · have := L.lt (c := d) (.inr (.inr (.inl rfl))); omega
  · intro c hc hd
    rcases hY c hc with h | h
    · exact L.yd c h hd
    · have := L.lt (c := c) (.inr (.inr (.inr (.inr (.inl hd))))); omega
theorem Law.mo_no (L : Law w A B d Y D G K) {c : Nat} (hc : B.mo c) : ¬ (c = d ∨ DB D c) := by
  have := L.bd c hc
  rintro (h | h)
  · omega
  · have := L.far c (.inl h); omega
theorem Law.more {Y' : Nat → Prop} (L : Law w A B d Y D G K) (k : Fr (fun _ => False) w w') (hY : ∀ c, Y' c → w.heap.size ≤ c ∧ c < w'.heap.size) : Law w' A B d (fun c => Y c ∨ Y' c) D G K := by
  obtain ⟨cs, ps, h⟩ := L.fnd
  refine L.gen k (fun _ h => h.elim) ⟨cs, ps, h.step k (fun _ h => h.elim) ?_⟩ (L.md.same k) (fun c hc => hc.imp id (fun h => (hY c h).1))
  rintro c (hc | hc | hc | hc | hc)
  · exact .inl (.inl hc)
  · exact .inl (.inr (.inl hc))
  · exact .inl (.inr (.inr (.inl hc)))
  · exact .inl (.inr (.inr (.inr hc)))
  · exact .inr (hY c hc)
theorem Law.same (L : Law w A B d Y D G K) (k : Fr (fun _ => False) w w') : Law w' A B d Y D G K := by
  obtain ⟨cs, ps, h⟩ := L.fnd
  exact L.gen k (fun _ h => h.elim) ⟨cs, ps, h.same k⟩ (L.md.same k) (fun c hc => .inl hc)
theorem Law.drop {Y' : Nat → Prop} (L : Law w A B d Y D G K) (hY : ∀ c, Y' c → Y c) : Law w A B d Y' D G K := by
  obtain ⟨cs, ps, h⟩ := L.fnd
  exact L.gen (Fr.refl (fun _ => False) w) (fun _ h => h.elim) ⟨cs, ps, h.step (Fr.refl (fun _ => False) w) (fun _ h => h.elim) (fun c hc => .inl (hc.imp id (.imp id (.imp id (hY c)))))⟩ L.md (fun c hc => .inl (hY c hc))
theorem Law.wrY (L : Law w A B d Y D G K) (k : Fr Y w w') : Law w' A B d Y D G K := by
  obtain ⟨cs, ps, h⟩ := L.fnd
  refine L.gen k (fun c hc => ?_) ⟨cs, ps, h.step k (fun c hc => .inl (.inr (.inr (.inr hc)))) (fun c hc => .inl hc)⟩ (L.md.frame k (fun c hm hc => by have := L.bd c hm; have := L.far c (.inr hc); omega)) (fun c hc => .inl hc)
  rintro (h | h)
  · have := L.far c (.inr hc); omega
  · exact L.yd c hc h
theorem Law.real {Y' : Nat → Prop} {G' : Nat} (L : Law w A B d Y D G K) (k : Fr (fun c => A.eo c ∨ A.fo c) w w') (hF : ∃ cs ps, Fnd (fun c => LX B d D Y c ∨ Y' c) w' A cs ps G') (hY : ∀ c, Y' c → w.heap.size ≤ c) : Law w' A B d (fun c => Y c ∨ Y' c) D G' K := by
  obtain ⟨cs, ps, h⟩ := hF
  refine L.gen k (fun c hc hd => L.xe (hd.elim .inl (fun h => .inr (.inr (.inl h)))) hc) ⟨cs, ps, h.step (Fr.refl (fun _ => False) w') (fun _ h => h.elim) ?_⟩ (L.md.frame k (fun c hc => L.xe (.inr (.inl hc)))) (fun c hc => hc.imp id (hY c))
  rintro c (hc | hc | hc | hc | hc)
  · exact .inl (.inl (.inl hc))
  · exact .inl (.inl (.inr (.inl hc)))
  · exact .inl (.inl (.inr (.inr (.inl hc))))
  · exact .inl (.inl (.inr (.inr (.inr hc))))
  · exact .inl (.inr hc)
theorem Law.real0 {G' : Nat} (L : Law w A B d Y D G K) (k : Fr (fun c => A.eo c ∨ A.fo c) w w') (hF : ∃ cs ps, Fnd (LX B d D Y) w' A cs ps G') : Law w' A B d Y D G' K :=
  L.gen k (fun _ hc hd => L.xe (hd.elim .inl (fun h => .inr (.inr (.inl h)))) hc) hF (L.md.frame k (fun _ hc => L.xe (.inr (.inl hc)))) (fun _ hc => .inl hc)
theorem Law.model {K' : Nat} (L : Law w A B d Y D G K) (k : Fr B.mo w w') (hM : Mod w' B K') : Law w' A B d Y D G K' := by
  obtain ⟨cs, ps, h⟩ := L.fnd
  exact L.gen k (fun c hc => L.mo_no hc) ⟨cs, ps, h.step k (fun c hc => .inl (.inr (.inl hc))) (fun c hc => .inl hc)⟩ hM (fun c hc => .inl hc)
/-- The model makes new blocks too. -/
theorem Law.modelY {Y' : Nat → Prop} {K' : Nat} (L : Law w A B d Y D G K) (k : Fr B.mo w w') (hM : Mod w' B K') (hY : ∀ c, Y' c → w.heap.size ≤ c ∧ c < w'.heap.size) : Law w' A B d (fun c => Y c ∨ Y' c) D G K' := by
  obtain ⟨cs, ps, h⟩ := L.fnd
  refine L.gen k (fun c hc => L.mo_no hc) ⟨cs, ps, h.step k (fun c hc => .inl (.inr (.inl hc))) ?_⟩ hM (fun c hc => hc.imp id (fun h => (hY c h).1))
  rintro c (hc | hc | hc | hc | hc)
  · exact .inl (.inl hc)
  · exact .inl (.inr (.inl hc))
  · exact .inl (.inr (.inr (.inl hc)))
  · exact .inl (.inr (.inr (.inr hc)))
  · exact .inr (hY c hc)
/-- The desk is written. -/
theorem Law.desk {D' : Dk} {Y' : Nat → Prop} (L : Law w A B d Y D G K) (k : Fr (fun c => c = d ∨ isBk D.ax c ∨ isBk D.cx c) w w') (hd : Blk w' d 16 (dkCell D')) (ho : OldOk w' D') (hX : ∀ c, DB D' c ∨ Y' c → DB D c ∨ Y c) (hs : ∀ c, isBk D'.ax c ∨ isBk D'.cx c → ∀ i, i < 4 → ¬ isBk (D'.oa i) c ∧ ¬ isBk (D'.oc i) c) (hy : ∀ c, Y' c → ¬ DB D' c) (hl : Las w' D') (hna : D'.na < 4) (hnc : D'.nc < 4) (hz : D'.pat.size ≤ 9223372036854775807 ∧ D'.sub.size ≤ 9223372036854775807) : Law w' A B d Y' D' G K := by
  obtain ⟨cs, ps, h⟩ := L.fnd
  refine ⟨⟨cs, ps, h.step k ?_ ?_⟩, L.md.frame k ?_, hd, ho, L.bd, fun c hc => L.far c (hX c hc), hs, hy, hl, hna, hnc, hz⟩
  · rintro c (hc | hc | hc)
    · exact .inl (.inl hc)
    · exact .inl (.inr (.inr (.inl (.inl hc))))
    · exact .inl (.inr (.inr (.inl (.inr (.inr (.inl hc))))))
  · rintro c (hc | hc | hc)
    · exact .inl (.inl hc)
    · exact .inl (.inr (.inl hc))
    · exact .inl (.inr (.inr (hX c hc)))
  · rintro c hc (h | h | h)
    · exact L.mo_no hc (.inl h)
    · exact L.mo_no hc (.inr (.inl h))
    · exact L.mo_no hc (.inr (.inr (.inr (.inl h))))
end
theorem DB.of {D D' : Dk} (h : D' = clrD D ∨ D' = allD D ∨ D' = cutD D) {c : Nat} (hc : DB D' c) : DB D c := by
  rcases h with rfl | rfl | rfl
  · rcases hc with hc | hc | hc | hc | ⟨i, hi, hc⟩
    · exact absurd hc (nil_no c)
    · exact absurd hc (nil_no c)
    · exact absurd hc (nil_no c)
    · exact absurd hc (nil_no c)
    · exact .old hi hc
  · rcases hc with hc | hc | hc | hc | ⟨i, hi, hc⟩
    · exact absurd hc (nil_no c)
    · exact absurd hc (nil_no c)
    · exact absurd hc (nil_no c)
    · exact absurd hc (nil_no c)
    · rcases hc with hc | hc
      · by_cases he : i = D.na
        · subst he
          exact .inl (by simpa [allD, upd] using hc)
        · exact .old hi (.inl (by simpa [allD, upd, he] using hc))
      · exact .old hi (.inr hc)
  · rcases hc with hc | hc | hc | hc | ⟨i, hi, hc⟩
    · exact absurd hc (nil_no c)
    · exact absurd hc (nil_no c)
    · exact absurd hc (nil_no c)
    · exact absurd hc (nil_no c)
    · rcases hc with hc | hc
      · exact .old hi (.inl hc)
      · by_cases he : i = D.nc
        · subst he
          exact .inr (.inr (.inl (by simpa [cutD, upd] using hc)))
        · exact .old hi (.inr (by simpa [cutD, upd, he] using hc))
theorem Cln.of {D D' : Dk} (h : D' = clrD D ∨ D' = allD D ∨ D' = cutD D) : Cln D' := by
  rcases h with rfl | rfl | rfl <;> exact ⟨rfl, rfl, rfl, rfl⟩
section
variable {w : World} {A : Fa} {B : Ma} {d : Nat} {Y : Nat → Prop} {D : Dk} {G K : Nat}
theorem Law.again0 (L : Law w A B d Y D G K) : Calls Tryz.prog 47 #[.pointer (some ⟨d, 0, none⟩)] w (AgF w d D) := by
  have hoa : ∀ i, i < 4 → ¬ isBk (D.oa i) d := fun i hi h => by have := L.far d (.inl (.old hi (.inl h))); omega
  have hoc : ∀ i, i < 4 → ¬ isBk (D.oc i) d := fun i hi h => by have := L.far d (.inl (.old hi (.inr h))); omega
  rcases L.las with ⟨cs, h1, h2, h3, h4, h5⟩ | ⟨xs, h1, h2, h3, h4, h5⟩
  · rcases h1 with ⟨e, rfl⟩ | ⟨b, f, e, hB, hf⟩
    · exact againF_nil L.dk e rfl h4 rfl h2 h5 (by simp) (by simp) L.old hoa hoc
    · by_cases hz : cs.length = 0
      · have hcs : cs = [] := List.eq_nil_of_length_eq_zero hz
        rw [hz] at e
        exact againF_zero L.dk e hcs h4 rfl h2 h5 (by omega) (by simp) L.old hoa hoc
      · have hbk : isBk D.ax b := ⟨_, _, e⟩
        have hdb := L.far b (.inl (.inl hbk))
        exact againF_all L.dk e hB hf (by omega) (by omega) (fun i hi => (L.sep b (.inl hbk) i hi).1) (fun i hi => (L.sep b (.inl hbk) i hi).2) h4 rfl h2 h5 (by omega) (by simp) L.old hoa hoc L.na
  · rcases h1 with ⟨e, rfl⟩ | ⟨b, f, e, hB, hf, hp⟩
    · exact againF_nil L.dk h4 rfl e rfl h5 h2 (by simp) (by simp) L.old hoa hoc
    · have hbk : isBk D.cx b := ⟨_, _, e⟩
      have hdb := L.far b (.inl (.inr (.inr (.inl hbk))))
      exact againF_cut L.dk e hB hf hp (by omega) (fun i hi => (L.sep b (.inr hbk) i hi).1) (fun i hi => (L.sep b (.inr hbk) i hi).2) h4 rfl h5 h2 (by simp) (by omega) L.old hoa hoc L.nc
theorem Law.again (L : Law w A B d Y D G K) : Calls Tryz.prog 47 #[.pointer (some ⟨d, 0, none⟩)] w fun v w' => v = .returned (.bool true) ∧ (∃ D', Cln D' ∧ Law w' A B d Y D' G K) ∧ Fr (fun c => c = d ∨ isBk D.ax c ∨ isBk D.cx c) w w' := by
  refine L.again0.mono ?_
  rintro v w' ⟨rfl, f, D', hD, hB, hO⟩
  have hc := Cln.of hD
  refine ⟨rfl, ⟨D', hc, L.desk f hB hO (fun c h => h.imp (DB.of hD) id) ?_ (fun c hy hb => L.yd c hy (DB.of hD hb)) (hc.las w') ?_ ?_ (by rcases hD with rfl | rfl | rfl <;> exact L.sz)⟩, f⟩
  · rintro c (h | h)
    · rw [hc.ax] at h; exact absurd h (nil_no c)
    · rw [hc.cx] at h; exact absurd h (nil_no c)
  · rcases hD with rfl | rfl | rfl
    · exact L.na
    · exact Nat.mod_lt _ (by decide)
    · exact L.na
  · rcases hD with rfl | rfl | rfl
    · exact L.nc
    · exact L.nc
    · exact Nat.mod_lt _ (by decide)
end
/-- What a step that plays may turn. -/
def PW (A : Fa) (B : Ma) (d : Nat) (D : Dk) (c : Nat) : Prop := A.eo c ∨ A.fo c ∨ B.mo c ∨ c = d ∨ isBk D.ax c ∨ isBk D.cx c
def PPost (w : World) (A : Fa) (B : Ma) (d : Nat) (D : Dk) (G K : Nat) (v : Ending) (w' : World) : Prop :=
  v = .returned (.bool true) ∧ (∃ D', Law w' A B d (fun _ => False) D' (G + 100000) (K + 1000)) ∧ Fr (PW A B d D) w w'
section
variable {w w' : World} {A : Fa} {B : Ma} {d : Nat} {Y : Nat → Prop} {D : Dk} {G K : Nat}
theorem Law.pwlt (L : Law w A B d Y D G K) {c : Nat} (hc : PW A B d D c) : c < w.heap.size := by
  rcases hc with h | h | h | h | h | h
  · exact L.lt (.inl h)
  · exact L.lt (.inr (.inl h))
  · exact L.lt (.inr (.inr (.inr (.inl h))))
  · exact L.lt (.inr (.inr (.inl h)))
  · exact L.lt (.inr (.inr (.inr (.inr (.inl (.inl h))))))
  · exact L.lt (.inr (.inr (.inr (.inr (.inl (.inr (.inr (.inl h))))))))
theorem Law.ofAll {v u : Value} {cs : List (Nat → Int)} (L : Law w A B d Y D G K) (hc : Cln D) (h1 : LVc w v cs) (h2 : CAt w u cs) (hl : cs.length ≤ 258) (hv : ∀ c, isBk v c ∨ isBk u c → Y c) (k : Fr (fun c => c = d) w w') (hd : Blk w' d 16 (dkCell { D with ax := v, am := u })) : Law w' A B d (fun _ => False) { D with ax := v, am := u } G K := by
  have hn : ∀ c, Y c → c ≠ d := fun c hc e => by have := L.far c (.inr hc); omega
  have hO : OldOk w' D := L.old.frame k (fun i hi b hb e => by have := L.far b (.inl (.old hi (.inl hb))); omega) (fun i hi b hb e => by have := L.far b (.inl (.old hi (.inr hb))); omega)
  refine L.desk (k.mono (fun _ _ h => .inl h)) hd (hO.cg rfl rfl) ?_ ?_ (fun _ h => h.elim) (.inl ⟨cs, h1.frame k (fun b hb => hn b (hv b (.inl hb))), h2.frame k (fun b hb => hn b (hv b (.inr hb))), hl, hc.cx, .inl ⟨rfl, _, _, hc.cm⟩⟩) L.na L.nc L.sz
  · rintro c ((h | h | h | h | ⟨i, hi, h⟩) | h)
    · exact .inr (hv c (.inl h))
    · exact .inr (hv c (.inr h))
    · exact .inl (.inr (.inr (.inl h)))
    · exact .inl (.inr (.inr (.inr (.inl h))))
    · exact .inl (.old hi h)
    · exact h.elim
  · rintro c (h | h) i hi
    · have := L.yd c (hv c (.inl h))
      exact ⟨fun hh => this (.old hi (.inl hh)), fun hh => this (.old hi (.inr hh))⟩
    · have h : isBk D.cx c := h
      rw [hc.cx] at h; exact absurd h (nil_no c)
theorem Law.ofCut {v u : Value} {xs : List ByteArray} (L : Law w A B d Y D G K) (hc : Cln D) (h1 : LVx w v xs) (h2 : XAt w u xs) (hl : xs.length ≤ 258) (hv : ∀ c, isBk v c ∨ isBk u c → Y c) (k : Fr (fun c => c = d) w w') (hd : Blk w' d 16 (dkCell { D with cx := v, cm := u })) : Law w' A B d (fun _ => False) { D with cx := v, cm := u } G K := by
  have hn : ∀ c, Y c → c ≠ d := fun c hc e => by have := L.far c (.inr hc); omega
  have hO : OldOk w' D := L.old.frame k (fun i hi b hb e => by have := L.far b (.inl (.old hi (.inl hb))); omega) (fun i hi b hb e => by have := L.far b (.inl (.old hi (.inr hb))); omega)
  refine L.desk (k.mono (fun _ _ h => .inl h)) hd (hO.cg rfl rfl) ?_ ?_ (fun _ h => h.elim) (.inr ⟨xs, h1.frame k (fun b hb => hn b (hv b (.inl hb))), h2.frame k (fun b hb => hn b (hv b (.inr hb))), hl, hc.ax, .inl ⟨rfl, _, _, hc.am⟩⟩) L.na L.nc L.sz
  · rintro c ((h | h | h | h | ⟨i, hi, h⟩) | h)
    · exact .inl (.inl h)
    · exact .inl (.inr (.inl h))
    · exact .inr (hv c (.inl h))
    · exact .inr (hv c (.inr h))
    · exact .inl (.old hi h)
    · exact h.elim
  · rintro c (h | h) i hi
    · have h : isBk D.ax c := h
      rw [hc.ax] at h; exact absurd h (nil_no c)
    · have := L.yd c (hv c (.inl h))
      exact ⟨fun hh => this (.old hi (.inl hh)), fun hh => this (.old hi (.inr hh))⟩
/-- A register is written. -/
theorem Law.reg {p s : ByteArray} (hp : p.size ≤ 9223372036854775807) (hs : s.size ≤ 9223372036854775807) (L : Law w A B d Y D G K) (k : Fr (fun c => c = d) w w') (hd : Blk w' d 16 (dkCell { D with pat := p, sub := s })) : Law w' A B d Y { D with pat := p, sub := s } G K := by
  have hO : OldOk w' D := L.old.frame k (fun i hi b hb e => by have := L.far b (.inl (.old hi (.inl hb))); omega) (fun i hi b hb e => by have := L.far b (.inl (.old hi (.inr hb))); omega)
  exact L.desk (k.mono (fun _ _ h => .inl h)) hd (hO.cg rfl rfl) (fun c h => h) L.sep L.yd (show Las w' D from L.las.frame k (fun b hb e => by have := L.far b (.inl hb); omega)) L.na L.nc ⟨hp, hs⟩
end
end Go.Proofs.Qxb6500283aGreat
