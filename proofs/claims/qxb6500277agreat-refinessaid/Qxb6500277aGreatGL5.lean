/- The law: SameCode (written by mkGL5.py). -/
import Derived.Test.Qxb6500277aGreatGL4
namespace Go.Proofs.Qxb6500277aGreat
open Go Go.RowKit

def o3 (c m a : Nat) (o : Nat) : Value := match o with | 0 => .pointer (some ⟨c, 0, none⟩) | 1 => .pointer (some ⟨m, 0, none⟩) | _ => .pointer (some ⟨a, 0, none⟩)
theorem lt3 {o : Nat} (h : o < 3) : o = 0 ∨ o = 1 ∨ o = 2 := by omega
theorem bad_long {src : ByteArray} (h : 4096 < src.size) : GBad src 31 4096 := by
  have e1 : ansErr src = 31 := by unfold ansErr; rw [if_neg (by omega)]
  have e2 : ansPos src = 4096 := by unfold ansPos; rw [if_neg (by omega)]
  exact ⟨[], -1, [], [], [], -1, .inl ⟨31, 4096, by decide, .inl ⟨by rw [e1]; decide, rfl, rfl, e1.symm, e2.symm⟩, rfl, rfl, rfl, rfl, rfl, rfl, rfl, rfl⟩, by decide⟩
theorem MAns.bad {src : ByteArray} {I : List Int} {fuel er po en rt fu er' po' : Int} {L : List Int} (h : MAns src I fuel er po en rt fu L) (hb : GBad src er' po') (hn : I.length ≤ 128 ∨ 4096 < src.size) : er' = er ∧ po' = po ∧ er ≠ 0 := by
  rcases h with ⟨a, rfl, rfl, _⟩ | ⟨a, b, _⟩ | ⟨a, b, c, _⟩ | ⟨a, b, X, s, m, hO, _⟩
  · have q := hb.det (bad_long a)
    exact ⟨q.1, q.2, by decide⟩
  · omega
  · have q := hb.det c
    obtain ⟨_, _, _, _, _, _, _, ne⟩ := c
    exact ⟨q.1, q.2, ne⟩
  · exact (hO.bad hb).elim
theorem MAns.ok {src : ByteArray} {I : List Int} {fuel er po en rt fu : Int} {L : List Int} {X : Cx} {s : Ck} {m : Nat} (h : MAns src I fuel er po en rt fu L) (hO : GOk src X s m) (hn : I.length ≤ 128 ∨ 4096 < src.size) : src.size ≤ 4096 ∧ I.length ≤ 128 ∧ er = 0 ∧ po = 0 := by
  rcases h with ⟨a, _⟩ | ⟨a, b, _⟩ | ⟨a, b, c, _⟩ | ⟨a, b, X', s', m', hO', e1, e2, _⟩
  · exact (hO.bad (bad_long a)).elim
  · omega
  · exact (hO.bad c).elim
  · exact ⟨a, b, e1, e2⟩
theorem BFr.set {w : World} {b : Nat} {v : Value} {C : List Nat} (h : BFr w b v C) (i x : Nat) : BFr (w.setCell ⟨b, i, none⟩ (.int .u8 (x : Nat))) b v (C.set i x) := by
  obtain ⟨h1, f, hB, hf⟩ := h
  refine ⟨by rw [h1, List.length_set], upd f i (.int .u8 (x : Nat)), by rw [List.length_set]; exact hB.set i _, fun j hj => ?_⟩
  rw [List.length_set] at hj
  by_cases e : j = i
  · subst e
    simp [upd, byteAt, hj]
  · simp only [upd, if_neg e]
    rw [hf j hj]
    simp [byteAt, List.getElem?_set_ne (Ne.symm e)]
set_option maxHeartbeats 1000000 in
theorem spoilB {w : World} {b : Nat} {v : Value} {C : List Nat} (h : BFr w b v C) (hl : C.length ≤ 4096) : Calls Tryz.prog 35 #[v] w fun e w' => e = .returned (.tuple #[]) ∧ Fr (fun c => c = b) w w' := by
  have hv := h.1
  obtain ⟨n, hn⟩ : ∃ n, n = C.length := ⟨_, rfl⟩
  rw [← hn] at hv hl
  rw [hv] at h
  have Hn : Hid (C.length = n) := hn.symm
  clear hn
  go_enter Tryz.func35, Tryz.ntmps35
  rw [hv]
  clear hv
  go_wp2_with fail
  go_loopg [2] n (fun g iv wr => ∃ (i : Nat) (C' : List Nat), iv = .int .i64 i ∧ i + g = n ∧ C'.length = n ∧ BFr wr b (.slice (some ⟨b, 0, none⟩) n n) C' ∧ Fr (fun c => c = b) w wr)
  case atStart => exact ⟨0, C, rfl, by omega, Hn.out, h, Fr.refl _ _⟩
  case round =>
    obtain ⟨i, C', rfl, hg, hC', hB, hfr⟩ := hrel
    have hg' : i + gk = n := hg
    clear hg
    have ib : (i : Int) ≤ 4096 := by omega
    by_cases hlt : i < n
    · have hI : decide ((i : Int) < (n : Nat)) = true := decide_eq_true (by omega)
      obtain ⟨_, f, hB1, hf⟩ := hB
      have c0 := hB1.cell (o := i) (by omega)
      rw [hf i (by omega)] at c0
      have cz := hB1.frozen
      have cl := hB1.lt
      have hs := BFr.set (w := wr) (b := b) (v := .slice (some ⟨b, 0, none⟩) n n) (C := C') ⟨by rw [hC'], f, hB1, hf⟩ i 255
      have F := hfr.setC b i (.int .u8 (255 : Nat)) (fun _ => rfl)
      have Hk : Hid (_ ∧ _) := ⟨hs, F⟩
      have HC' : Hid (C'.length = n) := hC'
      clear hs F hfr hB1 hf hC'
      go_wp2_with fail
      go_roundg (gk - 1)
      case measure => omega
      case rel => exact ⟨i + 1, C'.set i 255, by simp, by omega, by first | exact List.length_set.trans HC'.out | simp, Hk.out.1, Hk.out.2⟩
    · have hI : decide ((i : Int) < (n : Nat)) = false := decide_eq_false (by omega)
      clear hC' hB
      go_wp2_with fail
      go_end0
      exact ⟨rfl, hfr⟩
set_option maxRecDepth 100000 in
set_option maxHeartbeats 2000000 in
theorem lowRunF {w : World} {A : Va} {cv iv xv yv : Value} {C : List Nat} {I : List Int} {fuel : Int} {c m : Nat} (V : RV w A cv iv) (hx : BRd w xv C) (hy : KiAt w yv I) (hC : C.length ≤ 4096) (hI : I.length ≤ 128) (hcb : ∀ i, byteAt C i < 256) (hxd : ∀ b, isB xv b → ¬ VQ A cv iv b) (hyd : ∀ b, isB yv b → ¬ VQ A cv iv b) (hfu : fuel ≤ 9223372036854775807) :
    Calls Tryz.prog 34 #[.agg #[.pointer (some ⟨c, 0, none⟩), .pointer (some ⟨m, 0, none⟩), .pointer (some ⟨A.m, 0, none⟩)], xv, yv, .int .i64 fuel] w fun e w' => ∃ k cv' iv' ov, e = .returned (resV 0 0 (itV C I k (X1 C fuel)).1.en (itV C I k (X1 C fuel)).1.rt ov (itV C I k (X1 C fuel)).1.fuel) ∧ RvR w w' A C I fuel cv iv k cv' iv' ov := by
  obtain ⟨xa, xc, rfl, _⟩ := hx.sl
  obtain ⟨ya, yc, rfl, _⟩ := hy.sl
  have k0 := (Fr.refl (fun _ => False) w).alloc (.cells #[.pointer (some ⟨c, 0, none⟩), .pointer (some ⟨m, 0, none⟩), .pointer (some ⟨A.m, 0, none⟩)] 30)
  have B0 := Blk.newAny w #[.pointer (some ⟨c, 0, none⟩), .pointer (some ⟨m, 0, none⟩), .pointer (some ⟨A.m, 0, none⟩)] 30
  obtain ⟨w0, hw0⟩ : ∃ w0, w0 = w.alloc (.cells #[.pointer (some ⟨c, 0, none⟩), .pointer (some ⟨m, 0, none⟩), .pointer (some ⟨A.m, 0, none⟩)] 30) := ⟨_, rfl⟩
  have s0 : w0.heap.size = w.heap.size + 1 := by rw [hw0]; simp [World.size_alloc]
  rw [← hw0] at k0 B0
  have k1 := (Fr.refl (fun _ => False) w0).alloc box6
  have B1 := box6_blk w0
  obtain ⟨w1, hw1⟩ : ∃ w1, w1 = w0.alloc box6 := ⟨_, rfl⟩
  have s1 : w1.heap.size = w.heap.size + 2 := by rw [hw1, World.size_alloc, s0]
  rw [← hw1] at k1 B1
  have B0' := B0.frame k1 id
  have c2 := B0'.cell (o := 2) (by simp)
  have cl := B0'.lt
  have k01 := k0.trans k1 fun _ _ => id
  have q := (V.frame k01 fun _ _ => id).run (hx.frame k01 fun _ _ => id) (hy.frame k01 fun _ _ => id) hC hI hcb hxd hyd hfu
  rw [s0] at B1
  have HH : Hid (True ∧ _) := ⟨trivial, And.intro V (And.intro k01 (And.intro B1 s1))⟩
  obtain ⟨pm, hpm⟩ : ∃ pm, pm = A.m := ⟨_, rfl⟩
  rw [← hpm] at hw0 c2 q ⊢
  clear hpm
  simp at c2
  clear V k0 k1 B1 B0 B0' hx hy hxd hyd hcb hC hI k01
  unfold box6 at hw1
  obtain ⟨bb, hbb⟩ : ∃ bb, bb = w.heap.size + 1 := ⟨_, rfl⟩
  have Hbb : Hid (bb = w.heap.size + 1) := hbb
  clear hbb
  go_enter Tryz.func34, Tryz.ntmps34
  go_upto_region 1 with fail
  rw [← hw0, ← hw1]
  clear hw0 hw1
  go_wp2_with fail
  refine q.mono ?_
  rintro e w2 ⟨k, cv', iv', ov, rfl, Vr⟩
  clear q c2 cl
  obtain ⟨_, V, k01, B1, s1⟩ := HH.out
  obtain ⟨en, hen⟩ : ∃ x, x = (itV C I k (X1 C fuel)).1.en := ⟨_, rfl⟩
  obtain ⟨rt, hrt⟩ : ∃ x, x = (itV C I k (X1 C fuel)).1.rt := ⟨_, rfl⟩
  obtain ⟨fu, hfu'⟩ : ∃ x, x = (itV C I k (X1 C fuel)).1.fuel := ⟨_, rfl⟩
  rw [← hen, ← hrt, ← hfu']
  obtain ⟨oa, eov, _⟩ := Vr.out.ex
  obtain ⟨on, hon⟩ : ∃ x, x = (itV C I k (X1 C fuel)).1.out.length := ⟨_, rfl⟩
  rw [← hon] at eov
  subst eov
  have nq : ¬ VQ A cv iv (w.heap.size + 1) := fun h => by have := V.lt h; omega
  have D := B1.frame Vr.fr nq
  have b0 := D.cell (o := 0) (by omega)
  have b1 := D.cell (o := 1) (by omega)
  have b2 := D.cell (o := 2) (by omega)
  have b3 := D.cell (o := 3) (by omega)
  have b4 := D.cell (o := 4) (by omega)
  have b5 := D.cell (o := 5) (by omega)
  simp only [z6] at b0 b1 b2 b3 b4 b5
  have bl := D.lt
  have bz := D.frozen
  have D2 := D.set6v (.int .i64 0) (.int .i64 0) (.int .i64 en) (.int .i64 rt) (.slice oa on on) (.int .i64 fu)
  have F2 := (Fr.refl (fun b => b = w.heap.size + 1) w2).set6v (b := w.heap.size + 1) (fun _ => rfl) (.int .i64 0) (.int .i64 0) (.int .i64 en) (.int .i64 rt) (.slice oa on on) (.int .i64 fu)
  rw [← Hbb.out] at D2 F2
  have HF : Hid (True ∧ _) := ⟨trivial, And.intro D2 (And.intro F2 (And.intro Vr (And.intro k01 (And.intro V s1))))⟩
  rw [← Hbb.out] at b0 b1 b2 b3 b4 b5 bl bz
  try rw [s0]
  rw [← Hbb.out]
  clear D D2 F2 nq hon B1 V k01 s1 HH
  unfold set6v at HF
  have Hen : Hid _ := And.intro hen (And.intro hrt hfu')
  clear hen hrt hfu' Vr
  unfold resV
  go_wp2_with fail
  obtain ⟨_, D2, F2, Vr, k01, V, s1⟩ := HF.out
  have q0 := D2.cell (o := 0) (by omega)
  have q1 := D2.cell (o := 1) (by omega)
  have q2 := D2.cell (o := 2) (by omega)
  have q3 := D2.cell (o := 3) (by omega)
  have q4 := D2.cell (o := 4) (by omega)
  have q5 := D2.cell (o := 5) (by omega)
  simp only [c6] at q0 q1 q2 q3 q4 q5
  have ql := D2.lt
  refine bodyPost_ret (v := resV 0 0 en rt (.slice oa on on) fu) (by simp [results, Tryz.results34, go_sem, resV, q0, q1, q2, q3, q4, q5]) rfl ?_
  obtain ⟨hen, hrt, hfu'⟩ := Hen.out
  have e1 := Hbb.out
  have vl : ∀ b, VQ A cv' iv' b → b ≠ bb := fun b hb e => by
    rcases hb with h | h | h
    · have := V.lt (.inl h); omega
    · rcases Vr.cb b h with h | h
      · omega
      · have := V.lt (.inr (.inl h)); omega
    · rcases Vr.ib b h with h | h
      · omega
      · have := V.lt (.inr (.inr h)); omega
  refine ⟨k, cv', iv', .slice oa on on, by rw [hen, hrt, hfu'], Vr.rr, Vr.rv.frame F2 vl, Vr.out.frame F2 fun b hb e => ?_, fun b hb => ⟨by have := (Vr.ob b hb).1; omega, (Vr.ob b hb).2⟩, ((k01.mono fun _ _ h => h.elim).trans Vr.fr fun _ _ h => h).trans F2 fun b hb h => ?_, fun b hb => (Vr.cb b hb).imp (fun h => by omega) id, fun b hb => (Vr.ib b hb).imp (fun h => by omega) id⟩
  · have := (Vr.ob b hb).1; have e : b = bb := e; omega
  · have h : b = bb := h; omega
set_option maxRecDepth 100000 in
set_option maxHeartbeats 4000000 in
/-- THE CODE IS THE MEANING. -/
theorem sameCodeG {w : World} {g e : Nat} {A : Va} {E : Nat → Prop} {src : ByteArray} {I : List Int} {fuel er po en rt fu : Int} {L : List Int} {yv v2 : Value} {c m : Nat} (H : Sys w g e A E) (hy : KiAt w yv I) (hyd : ∀ b, isB yv b → ¬ E b) (hf : fuel ≤ 9223372036854775807) (hM : MAns src I fuel er po en rt fu L) (hn : I.length ≤ 128 ∨ 4096 < src.size) (h2 : KiAt w v2 L) (hvd : ∀ b, isB v2 b → ¬ E b) :
    Calls Tryz.prog 15 #[.pointer (some ⟨g, 0, none⟩), .agg #[.pointer (some ⟨c, 0, none⟩), .pointer (some ⟨m, 0, none⟩), .pointer (some ⟨A.m, 0, none⟩)], .string src, yv, .int .i64 fuel, resV er po en rt v2 fu] w fun x w' => x = .returned (.bool true) ∧ ∃ E', Sys w' g e A E' ∧ (∀ b, E' b → E b ∨ w.heap.size ≤ b) ∧ Fr E w w' := by
  obtain ⟨R, RM, cv, iv, X, hE, hEl⟩ := H
  obtain ⟨ya, yc, eyv, _⟩ := hy.sl
  obtain ⟨za, zn, zc, ezv⟩ := h2.one
  have k0 := (Fr.refl (fun _ => False) w).alloc (.cells #[.pointer (some ⟨c, 0, none⟩), .pointer (some ⟨m, 0, none⟩), .pointer (some ⟨A.m, 0, none⟩)] 30)
  have B0 : Blk (w.alloc (.cells #[.pointer (some ⟨c, 0, none⟩), .pointer (some ⟨m, 0, none⟩), .pointer (some ⟨A.m, 0, none⟩)] 30)) w.heap.size 3 (o3 c m A.m) := Blk.new w #[.pointer (some ⟨c, 0, none⟩), .pointer (some ⟨m, 0, none⟩), .pointer (some ⟨A.m, 0, none⟩)] 30 (o3 c m A.m) (fun o ho => by rcases lt3 (show o < 3 from ho) with rfl | rfl | rfl <;> rfl)
  obtain ⟨w0, hw0⟩ : ∃ w0, w0 = w.alloc (.cells #[.pointer (some ⟨c, 0, none⟩), .pointer (some ⟨m, 0, none⟩), .pointer (some ⟨A.m, 0, none⟩)] 30) := ⟨_, rfl⟩
  have s0 : w0.heap.size = w.heap.size + 1 := by rw [hw0]; simp [World.size_alloc]
  rw [← hw0] at k0 B0
  have k1 := (Fr.refl (fun _ => False) w0).alloc (.cells #[.int .i64 er, .int .i64 po, .int .i64 en, .int .i64 rt, .slice za zn zc, .int .i64 fu] 39)
  have B1 := blk6 w0 (.int .i64 er) (.int .i64 po) (.int .i64 en) (.int .i64 rt) (.slice za zn zc) (.int .i64 fu) 39
  obtain ⟨w1, hw1⟩ : ∃ w1, w1 = w0.alloc (.cells #[.int .i64 er, .int .i64 po, .int .i64 en, .int .i64 rt, .slice za zn zc, .int .i64 fu] 39) := ⟨_, rfl⟩
  have s1 : w1.heap.size = w.heap.size + 2 := by rw [hw1, World.size_alloc, s0]
  rw [← hw1] at k1 B1
  have B0' := B0.frame k1 id
  have k01 := k0.trans k1 fun _ _ => id
  rw [s0] at B1
  have X1 := X.same k01
  have q1 := compG (src := src) X1.G
  have HH : Hid (True ∧ _) := ⟨trivial, And.intro X (And.intro hE (And.intro hEl (And.intro hy (And.intro hyd (And.intro k01 (And.intro B0' (And.intro B1 (And.intro X1 (And.intro h2 (And.intro hvd (And.intro hM (And.intro hn (And.intro s1 (And.intro eyv ezv))))))))))))))⟩
  rw [eyv, ezv]
  obtain ⟨bb, hbb⟩ : ∃ bb, bb = w.heap.size + 1 := ⟨_, rfl⟩
  have Hbb : Hid (bb = w.heap.size + 1) := hbb
  clear hbb
  obtain ⟨pm, hpm⟩ : ∃ pm, pm = A.m := ⟨_, rfl⟩
  have Hpm : Hid (pm = A.m) := hpm
  rw [← hpm] at hw0 ⊢
  unfold resV
  clear X hE hEl hy hyd k0 k1 k01 B0 B0' B1 X1 h2 hvd hM hn eyv ezv hpm
  go_enter Tryz.func15, Tryz.ntmps15
  go_upto_region 1 with fail
  rw [← hw0, ← hw1]
  try rw [s0]
  rw [← Hbb.out]
  clear hw0 hw1
  go_wp2_with fail
  refine q1.mono ?_
  rintro x w2 ⟨R', G2, hR', f2, hcase⟩
  clear q1
  obtain ⟨_, X, hE, hEl, hy, hyd, k01, B0, B1, X1, h2, hvd, hM, hn, s1, eyv, ezv⟩ := HH.out
  have nR : ∀ b, w.heap.size ≤ b → ¬ R b := fun b hb h => by have := X.G.lt b h; omega
  have X2 := X1.stepG G2 hR' f2
  have F02 : Fr E w w2 := (k01.mono fun _ _ h => h.elim).trans f2 fun b _ h => hE b (.inl h)
  have C1 := B1.frame f2 (nR _ (by omega))
  have C0 := B0.frame f2 (nR _ (by omega))
  rw [← Hbb.out] at C1
  have z2 := f2.size
  have sub2 : ∀ b, SysB A R' RM cv iv b → E b ∨ w.heap.size ≤ b := fun b hb => by
    rcases hb with h | h | h
    · exact (hR' b h).imp (fun h => hE b (.inl h)) fun h => by omega
    · exact .inl (hE b (.inr (.inl h)))
    · exact .inl (hE b (.inr (.inr h)))
  have p0 := C1.cell (o := 0) (by omega)
  have p1 := C1.cell (o := 1) (by omega)
  have p2 := C1.cell (o := 2) (by omega)
  have p3 := C1.cell (o := 3) (by omega)
  have p4 := C1.cell (o := 4) (by omega)
  have p5 := C1.cell (o := 5) (by omega)
  simp only [c6] at p0 p1 p2 p3 p4 p5
  have pl := C1.lt
  rcases hcase with ⟨er', po', rfl, hbad⟩ | ⟨Xc, s, mm, v, b, rfl, hO, hB, hb1, hb2⟩
  · obtain ⟨rfl, rfl, ne⟩ := hM.bad hbad hn
    have y1 : (er' != 0) = true := by simpa using ne
    have y2 : (er' != er') = false := by simp
    have y3 : (po' != po') = false := by simp
    have e0 : ∀ w, (binOp .eql 70 (.slice none 0 0) (.slice none 0 0)).run Tryz.prog w = .ok (.bool true) w := fun _ => rfl
    have HF : Hid (True ∧ _) := ⟨trivial, And.intro X2 (And.intro F02 sub2)⟩
    clear X hE hEl hy hyd k01 B0 B1 X1 h2 hvd hM hn s1 eyv ezv nR X2 F02 C1 C0 z2 sub2 G2 hR' f2 hbad
    go_wp2_with fail
    go_ret
    obtain ⟨_, X2, F02, sub2⟩ := HF.out
    exact ⟨rfl, _, ⟨R', RM, cv, iv, X2, fun _ => id, fun b hb => X2.lt hb⟩, sub2, F02⟩
  · obtain ⟨hs, hI, rfl, rfl⟩ := hM.ok hO hn
    have hv := hB.1
    have hcl := cd_len hO []
    have K := (src_chk hO.1 hO.2).ok []
    have hcb : ∀ i, byteAt (cdS src Xc s mm []) i < 256 := K.by'
    obtain ⟨C, hC⟩ : ∃ C, C = cdS src Xc s mm [] := ⟨_, rfl⟩
    rw [← hC] at hB hv hcl hcb
    obtain ⟨nc, hnc⟩ : ∃ nc, nc = C.length := ⟨_, rfl⟩
    rw [← hnc] at hv
    have hy2 := hy.frame F02 hyd
    have q8 := copyInts hy2 (by omega)
    have HG : Hid (True ∧ _) := ⟨trivial, And.intro X (And.intro hE (And.intro hEl (And.intro hyd (And.intro hvd (And.intro hM (And.intro hO (And.intro hs (And.intro hI (And.intro X2 (And.intro F02 (And.intro C1 (And.intro C0 (And.intro z2 (And.intro sub2 (And.intro G2 (And.intro hB (And.intro hb1 (And.intro hb2 (And.intro hcl (And.intro hC (And.intro h2 (And.intro s1 (And.intro hcb (And.intro nR (And.intro hnc hR')))))))))))))))))))))))))⟩
    rw [eyv] at q8
    rw [hv]
    have Hv : Hid _ := hv
    have hn0 : (nc : Int) ≤ 4096 := by omega
    have ezv2 := ezv
    clear X hE hEl hy hyd k01 B0 B1 X1 h2 hvd hM hn s1 ezv nR X2 F02 C1 C0 z2 sub2 G2 hR' f2 hB hb1 hb2 hcl hC hO hcb hy2 hv K eyv HH hnc
    go_wp2_with fail
    refine q8.mono ?_
    rintro x w3 ⟨ix, rfl, kix, bix, f3⟩
    clear q8
    clear p0 p1 p2 p3 p4 p5 pl
    obtain ⟨ia, eix, _⟩ := kix.ex
    obtain ⟨_, X, hE, hEl, hyd, hvd, hM, hO, hs, hI, X2, F02, C1, C0, z2, sub2, G2, hB, hb1, hb2, hcl, hC, h2, s1, hcb, nR, hnc, hR'⟩ := HG.out
    have X3 := X2.same f3
    have D0 := C0.frame f3 id
    have z3 := f3.size
    have vq2 : ∀ b, VQ A cv iv b → b < w.heap.size := fun b h => X.V.lt h
    have hbl : b < w2.heap.size := by obtain ⟨_, _, h, _⟩ := hB; exact h.lt
    have q9 := lowRunF (fuel := fuel) (c := c) (m := m) X3.V (hB.rd.frame f3 fun _ _ => id) kix.at (by omega) hI hcb (fun x hx h => by have := hB.bk x hx; have := vq2 x h; omega) (fun x hx h => by have := bix x hx; have := vq2 x h; omega) hf
    have p0 := D0.cell (o := 0) (by omega)
    have p1 := D0.cell (o := 1) (by omega)
    have p2 := D0.cell (o := 2) (by omega)
    simp only [o3] at p0 p1 p2
    have pl := D0.lt
    rw [Hv.out, eix] at q9
    rw [← Hpm.out] at q9 p2
    have H3 : Hid (True ∧ _) := ⟨trivial, And.intro kix (And.intro bix (And.intro f3 (And.intro X3 (And.intro hbl vq2))))⟩
    rw [eix]
    clear X hE hEl hyd hvd hM hO hs hI X2 F02 C1 C0 z2 sub2 G2 hB hb1 hb2 hcl hC h2 s1 hcb nR hnc hR' X3 D0 z3 vq2 hbl kix bix f3 eix
    go_wp2_with fail
    refine q9.mono ?_
    rintro x w4 ⟨k, cv', iv', ov, rfl, Vr⟩
    clear q9
    clear p0 p1 p2 pl
    obtain ⟨_, X, hE, hEl, hyd, hvd, hM, hO, hs, hI, X2, F02, C1, C0, z2, sub2, G2, hB, hb1, hb2, hcl, hC, h2, s1, hcb, nR, hnc, hR'⟩ := HG.out
    obtain ⟨_, kix, bix, f3, X3, hbl, vq2⟩ := H3.out
    obtain ⟨en', hen⟩ : ∃ x, x = (itV C I k (X1 C fuel)).1.en := ⟨_, rfl⟩
    obtain ⟨rt', hrt⟩ : ∃ x, x = (itV C I k (X1 C fuel)).1.rt := ⟨_, rfl⟩
    obtain ⟨fu', hfu⟩ : ∃ x, x = (itV C I k (X1 C fuel)).1.fuel := ⟨_, rfl⟩
    have Ko := Vr.out
    obtain ⟨L', hL'⟩ : ∃ x, x = (itV C I k (X1 C fuel)).1.out := ⟨_, rfl⟩
    rw [← hen, ← hrt, ← hfu]
    rw [← hL'] at Ko
    have hrr := Vr.rr
    have hAns : GAns src I fuel 0 0 en' rt' fu' L' := .inr (.inr (.inr ⟨hs, hI, Xc, s, mm, k, hO, by rw [cdS_inp src Xc s mm I [], ← hC]; exact hrr, rfl, rfl, by rw [cdS_inp src Xc s mm I [], ← hC]; exact hen, by rw [cdS_inp src Xc s mm I [], ← hC]; exact hrt, by rw [cdS_inp src Xc s mm I [], ← hC]; exact hfu, by rw [cdS_inp src Xc s mm I [], ← hC]; exact hL'⟩))
    obtain ⟨_, _, rfl, rfl, rfl, rfl⟩ := ans_same hAns hM
    have hl' := hAns.le
    clear hen hrt hfu hL'
    obtain ⟨oa, eov, _⟩ := Ko.ex
    subst eov
    have X4 := X3.stepV Vr.rv Vr.cb Vr.ib Vr.fr
    have nV : ∀ b, w.heap.size ≤ b → ¬ VQ A cv iv b := fun b hb h => by have := vq2 b h; omega
    have F24 : Fr (VQ A cv iv) w2 w4 := (f3.mono fun _ _ h => h.elim).trans Vr.fr fun _ _ h => h
    have F04 : Fr E w w4 := F02.trans F24 fun b _ h => hE b (.inr (.inr h))
    have B4 := hB.frame F24 (nV b (by omega))
    have D1 := C1.frame F24 (nV _ (by have := Hbb.out; omega))
    have z3 := f3.size
    have z4 := Vr.fr.size
    have vq4 : ∀ x, VQ A cv' iv' x → x < w.heap.size ∨ w3.heap.size ≤ x := fun x hx => by
      rcases hx with h | h | h
      · exact .inl (vq2 x (.inl h))
      · exact (Vr.cb x h).symm.imp (fun h => vq2 x (.inr (.inl h))) id
      · exact (Vr.ib x h).symm.imp (fun h => vq2 x (.inr (.inr h))) id
    have sub4 : ∀ b, SysB A R' RM cv' iv' b → E b ∨ w.heap.size ≤ b := fun b hb => by
      rcases hb with h | h | h
      · exact sub2 b (.inl h)
      · exact sub2 b (.inr (.inl h))
      · rcases h with h | h | h
        · exact .inl (hE b (.inr (.inr (.inl h))))
        · rcases Vr.cb b h with h | h
          · exact .inr (by omega)
          · exact .inl (hE b (.inr (.inr (.inr (.inl h)))))
        · rcases Vr.ib b h with h | h
          · exact .inr (by omega)
          · exact .inl (hE b (.inr (.inr (.inr (.inr h)))))
    have nb4 : ¬ SysB A R' RM cv' iv' b := fun h => by
      rcases h with h | h | h
      · exact hb2 h
      · have := X.M.lt b h; omega
      · rcases vq4 b h with h | h <;> omega
    have ovb : ∀ x, isB (.slice oa L'.length L'.length) x → w3.heap.size ≤ x := fun x hx => (Vr.ob x hx).1
    have h24 := h2.frame F04 hvd
    have v2n : ∀ x, isB v2 x → x < w.heap.size := fun x hx => h2.bk hx
    have H4 : Hid (True ∧ _) := ⟨trivial, And.intro X4 (And.intro F04 (And.intro B4 (And.intro D1 (And.intro sub4 (And.intro nb4 (And.intro Ko (And.intro ovb (And.intro h24 (And.intro v2n (And.intro hb1 (And.intro s1 (And.intro hcl (And.intro hbl z3)))))))))))))⟩
    clear X hE hEl hyd hvd hM hO hs hI X2 F02 C1 C0 z2 sub2 G2 hB hb1 hb2 hcl hC h2 s1 hcb nR hnc hR' kix bix f3 X3 hbl vq2 Ko hrr hAns X4 nV F24 F04 B4 D1 z3 z4 vq4 sub4 nb4 ovb h24 v2n Vr HG H3
    simp only [resV]
    go_upto_region 10 with fail
    generalize hw5 : World.alloc w4 _ = w5
    have B5 : Blk w5 w4.heap.size 6 (c6 (.int .i64 0) (.int .i64 0) (.int .i64 en') (.int .i64 rt') (.slice oa L'.length L'.length) (.int .i64 fu')) := by rw [← hw5]; exact blk6 _ _ _ _ _ _ _ _
    have f5 : Fr (fun _ => False) w4 w5 := by rw [← hw5]; exact (Fr.refl _ _).alloc _
    clear hw5
    obtain ⟨_, X4, F04, B4, D1, sub4, nb4, Ko, ovb, h24, v2n, hb1, s1, hcl, hbl, z3⟩ := H4.out
    have q10 := spoilB (B4.frame f5 id) (by omega)
    rw [Hv.out] at q10
    have H5 : Hid (True ∧ _) := ⟨trivial, And.intro B5 f5⟩
    clear X4 F04 B4 D1 sub4 nb4 Ko ovb h24 v2n hb1 s1 hcl hbl z3 B5 f5
    go_wp2_with fail
    refine q10.mono ?_
    rintro x w6 ⟨rfl, f6⟩
    clear q10
    obtain ⟨_, X4, F04, B4, D1, sub4, nb4, Ko, ovb, h24, v2n, hb1, s1, hcl, hbl, z3⟩ := H4.out
    obtain ⟨_, B5, f5⟩ := H5.out
    have e1 := Hbb.out
    have z4 := F04.size
    have hb4 : b < w4.heap.size := by obtain ⟨_, _, h, _⟩ := B4; exact h.lt
    have E5 := B5.frame f6 (by omega)
    have E1 := (D1.frame f5 id).frame f6 (by omega)
    have X6 := (X4.same f5).frame f6 fun x hx e => nb4 (by have e : x = b := e; rw [← e]; exact hx)
    have F06 : Fr E w w6 := (F04.trans f5 fun _ _ h => h.elim).trans f6 fun x hx e => by have e : x = b := e; omega
    have o6 := (Ko.at.frame f5 fun _ _ => id).frame f6 fun x hx e => by have e : x = b := e; have := ovb x hx; omega
    have v6 := (h24.frame f5 fun _ _ => id).frame f6 fun x hx e => by have e : x = b := e; have := v2n x hx; omega
    have q11 := sameResultF (er := 0) (po := 0) (en := en') (rt := rt') (fu := fu') o6 v6 (by omega)
    rw [ezv2] at q11
    simp only [resV] at q11
    have p0 := E5.cell (o := 0) (by omega)
    have p1 := E5.cell (o := 1) (by omega)
    have p2 := E5.cell (o := 2) (by omega)
    have p3 := E5.cell (o := 3) (by omega)
    have p4 := E5.cell (o := 4) (by omega)
    have p5 := E5.cell (o := 5) (by omega)
    simp only [c6] at p0 p1 p2 p3 p4 p5
    have pl := E5.lt
    have q0 := E1.cell (o := 0) (by omega)
    have q1 := E1.cell (o := 1) (by omega)
    have q2 := E1.cell (o := 2) (by omega)
    have q3 := E1.cell (o := 3) (by omega)
    have q4 := E1.cell (o := 4) (by omega)
    have q5 := E1.cell (o := 5) (by omega)
    simp only [c6] at q0 q1 q2 q3 q4 q5
    have ql := E1.lt
    have HF : Hid (True ∧ _) := ⟨trivial, And.intro X6 (And.intro F06 sub4)⟩
    clear X4 F04 B4 D1 sub4 nb4 Ko ovb h24 v2n hb1 s1 hcl hbl z3 B5 f5 f6 e1 z4 hb4 E5 E1 X6 F06 o6 v6 H4 H5
    go_wp2_with fail
    refine q11.mono ?_
    rintro x w7 ⟨rfl, f7⟩
    clear q11
    clear p0 p1 p2 p3 p4 p5 pl
    clear q0 q1 q2 q3 q4 q5 ql
    go_wp2_with fail
    go_ret
    obtain ⟨_, X6, F06, sub4⟩ := HF.out
    have X7 := X6.same f7
    exact ⟨rfl, _, ⟨R', RM, cv', iv', X7, fun _ => id, fun b hb => X7.lt hb⟩, sub4, F06.trans f7 fun _ _ h => h.elim⟩
end Go.Proofs.Qxb6500277aGreat
