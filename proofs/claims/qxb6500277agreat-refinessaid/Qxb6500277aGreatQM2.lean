/- The model parser: want, name, add, link, enter, with what follows. -/
import Derived.Test.Qxb6500277aGreatQM1
namespace Go.Proofs.Qxb6500277aGreat
open Go Go.RowKit

section
variable {w w' w1 w2 : World} {s tb : Nat} {T : List Tok} {i : Nat} {ns : List Nd} {er q : Int} {nv nv1 nv2 : Value} {S : Nat → Prop} {M : Mo} {K : Nat → List Nd → Prop} {g : Nat → List Nd → Mo}
/-- The model has failed, and so does M. -/
def DdM (w : World) (s tb : Nat) (T : List Tok) (nv : Value) (M : Mo) : Prop := ∃ er q j ms, er ≠ 0 ∧ SM w s tb T j ms er q nv ∧ EvM T M (.bad er q)
def LvM (w : World) (s tb : Nat) (T : List Tok) (nv : Value) (M : Mo) (K : Nat → List Nd → Prop) (g : Nat → List Nd → Mo) : Prop := ∃ j ms, SM w s tb T j ms 0 0 nv ∧ K j ms ∧ Im T (g j ms) M
/-- The model goes on with g, or has failed. -/
def St (w : World) (s tb : Nat) (T : List Tok) (nv : Value) (M : Mo) (K : Nat → List Nd → Prop) (g : Nat → List Nd → Mo) : Prop := LvM w s tb T nv M K g ∨ DdM w s tb T nv M
theorem DdM.frame (h : DdM w s tb T nv M) (k : Fr S w w') (h1 : ¬ S s) (h2 : ¬ S tb) (h3 : ∀ c, isBlk nv c → ¬ S c) : DdM w' s tb T nv M := by
  obtain ⟨er, q, j, ms, h0, P, hE⟩ := h
  exact ⟨er, q, j, ms, h0, P.frame k h1 h2 h3, hE⟩
theorem St.frame (h : St w s tb T nv M K g) (k : Fr S w w') (h1 : ¬ S s) (h2 : ¬ S tb) (h3 : ∀ c, isBlk nv c → ¬ S c) : St w' s tb T nv M K g := by
  rcases h with ⟨j, ms, P, hK, C⟩ | D
  · exact .inl ⟨j, ms, P.frame k h1 h2 h3, hK, C⟩
  · exact .inr (D.frame k h1 h2 h3)
theorem St.same (h : St w s tb T nv M K g) (k : Fr (fun _ => False) w w') : St w' s tb T nv M K g := h.frame k (fun h => h) (fun h => h) (fun _ _ h => h)
theorem St.any (h : St w s tb T nv M K g) : ∃ er q j ms, SM w s tb T j ms er q nv := by
  rcases h with ⟨j, ms, P, hK, C⟩ | ⟨er, q, j, ms, h0, P, hE⟩
  · exact ⟨_, _, _, _, P⟩
  · exact ⟨_, _, _, _, P⟩
set_option maxRecDepth 100000 in
set_option maxHeartbeats 2000000 in
theorem wantM (P : SM w s tb T i ns 0 0 nv) (k : Int) : Calls Tryz.prog 170 #[.pointer (some ⟨s, 0, none⟩), .int .i64 k] w fun e w' => e = .returned (.int .i64 (ps T i)) ∧ Gm s w nv w' nv ∧ ((kd T i = k ∧ SM w' s tb T (stp T i) ns 0 0 nv) ∨ (kd T i ≠ k ∧ SM w' s tb T i ns 10 (ps T i) nv)) := by
  by_cases h : kd T i = k
  · have hb : (kd T i != k) = false := by simp [h]
    go_enter Tryz.func170, Tryz.ntmps170
    go_wp2_with fail
    refine (atMq P).mono ?_
    rintro v w1 ⟨rfl, f1⟩
    have P1 := P.same f1
    obtain ⟨r0, r1, r2, r3, r4⟩ := P1.regs
    obtain ⟨b1, b2⟩ := P1.blt
    go_wp2_with fail
    refine (kindM P1).mono ?_
    rintro v w2 ⟨rfl, f2⟩
    go_wp2_with fail
    refine (nextM (P1.same f2)).mono ?_
    rintro v w3 ⟨rfl, P3, f3⟩
    go_wp2_with fail
    go_ret
    exact ⟨rfl, (Gm.same f1).trans ((Gm.same f2).trans f3), .inl ⟨h, P3⟩⟩
  · have hb : (kd T i != k) = true := by simpa using h
    go_enter Tryz.func170, Tryz.ntmps170
    go_wp2_with fail
    refine (atMq P).mono ?_
    rintro v w1 ⟨rfl, f1⟩
    have P1 := P.same f1
    obtain ⟨r0, r1, r2, r3, r4⟩ := P1.regs
    obtain ⟨b1, b2⟩ := P1.blt
    go_wp2_with fail
    refine (kindM P1).mono ?_
    rintro v w2 ⟨rfl, f2⟩
    go_wp2_with fail
    refine (failM (P1.same f2) 10 (ps T i)).mono ?_
    rintro v w3 ⟨rfl, P3, f3⟩
    go_wp2_with fail
    go_ret
    exact ⟨rfl, (Gm.same f1).trans ((Gm.same f2).trans f3), .inr ⟨h, P3⟩⟩
set_option maxRecDepth 100000 in
set_option maxHeartbeats 2000000 in
theorem wantM_dead (P : SM w s tb T i ns er q nv) (h0 : er ≠ 0) (k : Int) : Calls Tryz.prog 170 #[.pointer (some ⟨s, 0, none⟩), .int .i64 k] w fun e w' => e = .returned (.int .i64 (ps T i)) ∧ Fr (fun _ => False) w w' := by
  have hb : (er != 0) = true := by simpa using h0
  go_enter Tryz.func170, Tryz.ntmps170
  go_wp2_with fail
  refine (atMq P).mono ?_
  rintro v w1 ⟨rfl, f1⟩
  have P1 := P.same f1
  obtain ⟨r0, r1, r2, r3, r4⟩ := P1.regs
  obtain ⟨b1, b2⟩ := P1.blt
  go_wp2_with fail
  go_ret
  exact ⟨rfl, f1⟩
theorem wantCq {k : Int} {K' : Nat → List Nd → Prop} {g : Int → Nat → List Nd → Mo} (h : St w s tb T nv M K (fun j ms => wnt T k j fun j' => g (ps T j) j' ms)) (hk : k ≠ 0) (hK : ∀ j ms, K j ms → K' (j + 1) ms) :
    Calls Tryz.prog 170 #[.pointer (some ⟨s, 0, none⟩), .int .i64 k] w fun e w' => ∃ p, e = .returned (.int .i64 p) ∧ St w' s tb T nv M K' (g p) ∧ Gm s w nv w' nv := by
  rcases h with ⟨j, ms, P, hKK, C⟩ | ⟨er, q, j, ms, h0, P, hE⟩
  · simp only at C
    refine (wantM P k).mono ?_
    rintro e w1 ⟨rfl, G1, ⟨h, P1⟩ | ⟨h, P1⟩⟩
    · rw [wnt_ok h] at C
      have hs := (P.nxt (by omega)).1
      rw [hs] at C P1
      exact ⟨_, rfl, .inl ⟨_, _, P1, hK _ _ hKK, C⟩, G1⟩
    · rw [wnt_bad h] at C
      exact ⟨_, rfl, .inr ⟨_, _, _, _, by decide, P1, C _ (.ret _)⟩, G1⟩
  · refine (wantM_dead P h0 k).mono ?_
    rintro e w1 ⟨rfl, f1⟩
    exact ⟨_, rfl, .inr ⟨_, _, _, _, h0, P.same f1, hE⟩, .same f1⟩
theorem nextC {K' : Nat → List Nd → Prop} (h : St w s tb T nv M K (fun j ms => g (stp T j) ms)) (hK : ∀ j ms, K j ms → K' (stp T j) ms) :
    Calls Tryz.prog 212 #[.pointer (some ⟨s, 0, none⟩)] w fun e w' => e = .returned (.tuple #[]) ∧ St w' s tb T nv M K' g ∧ Gm s w nv w' nv := by
  rcases h with ⟨j, ms, P, hKK, C⟩ | ⟨er, q, j, ms, h0, P, hE⟩
  · refine (nextM P).mono ?_
    rintro e w1 ⟨rfl, P1, G1⟩
    exact ⟨rfl, .inl ⟨_, _, P1, hK _ _ hKK, C⟩, G1⟩
  · refine (nextM P).mono ?_
    rintro e w1 ⟨rfl, P1, G1⟩
    exact ⟨rfl, .inr ⟨_, _, _, _, h0, P1, hE⟩, G1⟩
set_option maxRecDepth 100000 in
set_option maxHeartbeats 2000000 in
theorem enterM (P : SM w s tb T i ns 0 0 nv) (d : Nat) (hd : d ≤ 9) : Calls Tryz.prog 213 #[.pointer (some ⟨s, 0, none⟩), .int .i64 d] w fun e w' => (¬ 8 ≤ d ∧ e = .returned (.bool true) ∧ w' = w) ∨ (8 ≤ d ∧ e = .returned (.bool false) ∧ SM w' s tb T i ns 11 (ps T i) nv ∧ Gm s w nv w' nv) := by
  obtain ⟨r0, r1, r2, r3, r4⟩ := P.regs
  obtain ⟨b1, b2⟩ := P.blt
  by_cases h : 8 ≤ d
  · have hb : decide ((d : Int) ≥ 8) = true := decide_eq_true (by omega)
    have hb2 : decide ((8 : Int) ≤ d) = true := decide_eq_true (by omega)
    go_enter Tryz.func213, Tryz.ntmps213
    go_wp2_with fail
    refine (atMq P).mono ?_
    rintro v w1 ⟨rfl, f1⟩
    go_wp2_with fail
    refine (failM (P.same f1) 11 (ps T i)).mono ?_
    rintro v w2 ⟨rfl, P2, G2⟩
    go_wp2_with fail
    go_ret
    exact .inr ⟨h, rfl, P2, (Gm.same f1).trans G2⟩
  · have hb : decide ((d : Int) ≥ 8) = false := decide_eq_false (by omega)
    have hb2 : decide ((8 : Int) ≤ d) = false := decide_eq_false (by omega)
    go_enter Tryz.func213, Tryz.ntmps213
    go_wp2_with fail
    go_ret
    exact .inl ⟨h, rfl, rfl⟩
set_option maxRecDepth 100000 in
set_option maxHeartbeats 2000000 in
theorem enterM_dead (P : SM w s tb T i ns er q nv) (h0 : er ≠ 0) (d : Int) : Calls Tryz.prog 213 #[.pointer (some ⟨s, 0, none⟩), .int .i64 d] w fun e w' => e = .returned (.bool false) ∧ w' = w := by
  obtain ⟨r0, r1, r2, r3, r4⟩ := P.regs
  obtain ⟨b1, b2⟩ := P.blt
  have hb : (er != 0) = true := by simpa using h0
  go_enter Tryz.func213, Tryz.ntmps213
  go_wp2_with fail
  go_ret
  exact ⟨rfl, rfl⟩
set_option maxRecDepth 100000 in
theorem enterC {d : Nat} (h : St w s tb T nv M K (fun j ms => ent T d j (g j ms))) (hd : d ≤ 9) :
    Calls Tryz.prog 213 #[.pointer (some ⟨s, 0, none⟩), .int .i64 d] w fun e w' => (¬ 8 ≤ d ∧ e = .returned (.bool true) ∧ w' = w ∧ LvM w s tb T nv M K g) ∨ (e = .returned (.bool false) ∧ DdM w' s tb T nv M ∧ Gm s w nv w' nv) := by
  rcases h with ⟨j, ms, P, hKK, C⟩ | ⟨er, q, j, ms, h0, P, hE⟩
  · simp only at C
    refine (enterM P d hd).mono ?_
    rintro e w1 (⟨h, h1, h2⟩ | ⟨h, h1, h2, h3⟩)
    · rw [ent_ok h] at C
      exact .inl ⟨h, h1, h2, _, _, P, hKK, C⟩
    · rw [ent_bad h] at C
      exact .inr ⟨h1, ⟨_, _, _, _, by decide, h2, C _ (.ret _)⟩, h3⟩
  · refine (enterM_dead P h0 d).mono ?_
    rintro e w1 ⟨h1, h2⟩
    subst w1
    exact .inr ⟨h1, ⟨_, _, _, _, h0, P, hE⟩, .refl⟩
set_option maxRecDepth 100000 in
set_option maxHeartbeats 2000000 in
theorem addM_dead (P : SM w s tb T i ns er q nv) (h0 : er ≠ 0) (nd : Nd) : Calls Tryz.prog 174 #[.pointer (some ⟨s, 0, none⟩), ndV nd] w fun e w' => e = .returned (.int .i64 (-1)) ∧ Fr (fun _ => False) w w' := by
  obtain ⟨r0, r1, r2, r3, r4⟩ := P.regs
  obtain ⟨b1, b2⟩ := P.blt
  have hb : (er != 0) = true := by simpa using h0
  unfold ndV
  go_enter Tryz.func174, Tryz.ntmps174
  go_wp2_with fail
  go_ret
  exact ⟨rfl, (Fr.refl _ _).alloc _⟩
theorem SlN.sl (h : SlN w nv ns) : ∃ a c, nv = .slice a ns.length c := by
  rcases h with ⟨rfl, rfl⟩ | ⟨b, cap, f, rfl, _⟩
  · exact ⟨_, _, rfl⟩
  · exact ⟨_, _, rfl⟩
set_option maxRecDepth 100000 in
set_option maxHeartbeats 2000000 in
theorem addM_full (P : SM w s tb T i ns 0 0 nv) (nd : Nd) (hn : 200 ≤ ns.length) : Calls Tryz.prog 174 #[.pointer (some ⟨s, 0, none⟩), ndV nd] w fun e w' => e = .returned (.int .i64 (-1)) ∧ SM w' s tb T i ns 12 nd.pos nv ∧ Gm s w nv w' nv := by
  obtain ⟨na, nc, rfl⟩ := P.arr.sl
  obtain ⟨r0, r1, r2, r3, r4⟩ := P.regs
  obtain ⟨b1, b2⟩ := P.blt
  have hb : decide ((ns.length : Int) ≥ 200) = true := decide_eq_true (by omega)
  have f1 := (Fr.refl (fun _ => False) w).alloc (boxN nd)
  unfold ndV
  go_enter Tryz.func174, Tryz.ntmps174
  go_wp2_with fail
  refine (failM (P.same f1) 12 nd.pos).mono ?_
  rintro v w2 ⟨rfl, P2, G2⟩
  go_wp2_with fail
  go_ret
  exact ⟨rfl, P2, (Gm.same f1).trans G2⟩
theorem PAn.one {b : Nat} (nd : Nd) (X : Blk w b 8 (ndCell nd)) : PAn w b [nd] := fun o ho => by
  have ho : o < 8 := by simpa using ho
  rw [X.cell ho]
  rcases lt8c ho with rfl | rfl | rfl | rfl | rfl | rfl | rfl | rfl <;> rfl
set_option maxRecDepth 100000 in
set_option maxHeartbeats 8000000 in
theorem addM_ok (P : SM w s tb T i ns 0 0 nv) (nd : Nd) (hn : ¬ 200 ≤ ns.length) : Calls Tryz.prog 174 #[.pointer (some ⟨s, 0, none⟩), ndV nd] w fun e w' => ∃ nv', e = .returned (.int .i64 ns.length) ∧ SM w' s tb T i (ns ++ [nd]) 0 0 nv' ∧ Gm s w nv w' nv' := by
  obtain ⟨na, nc, rfl⟩ := P.arr.sl
  obtain ⟨r0, r1, r2, r3, r4⟩ := P.regs
  obtain ⟨b1, b2⟩ := P.blt
  have hb : decide ((ns.length : Int) ≥ 200) = false := decide_eq_false (by omega)
  have hn2 : ns.length < 200 := by omega
  have F1 := ((Fr.refl (fun _ => False) w).alloc (boxN nd)).alloc (boxN nd)
  have P1 := P.same F1.drew
  have hp0 := boxN_blk (w.alloc (boxN nd)) nd
  rw [World.size_alloc] at hp0
  have hp1 := PAn.one nd hp0.drew
  have hN1 := P1.arr
  have hb1 := P1.blk
  have HP : Hid _ := P
  have HF : Hid _ := F1
  clear hn F1 hp0
  unfold boxN at hp1 hN1 hb1
  unfold ndV
  go_enter Tryz.func174, Tryz.ntmps174
  go_wp2_with fail
  refine wp_region_text (by kernel_rfl) (by kernel_rfl) ?_
  go_wp2_with (at_builtin; refine wpList_appendNd (by rfl) _ _ (by rfl) (.slice na ns.length nc) ns nd (w.heap.size + 1) 1 (by rfl) (by rfl) hN1 hp1 (by omega) ?_; intro v' w8 hc hb8 f8; obtain ⟨va, vcap, rfl⟩ := hc.sl; have hrb := hb1.frame f8 (fun ⟨n, c, e⟩ => HP.out.apt.2.1 ⟨n, c, e⟩); have d2 := hrb.cell (o := 2) (by omega); have z8 := hrb.frozen; have l8 := hrb.lt)
  refine ⟨by kernel_rfl, ?_⟩
  have Hc : Hid (SlN w8 (.slice va (ns ++ [nd]).length vcap) (ns ++ [nd])) := hc
  have Hb8 : Hid _ := hb8
  have Hf8 : Hid _ := f8
  have Hrb : Hid (Blk w8 s 5 (sCell tb T.length i (Value.slice na ns.length nc) 0 0)) := hrb
  clear hc hb8 f8 hrb P1 hp1 hN1 hb1 r0 r1 r2 r3 r4
  have hl1 : ((ns ++ [nd]).length : Int) = ns.length + 1 := by simp
  go_wp2_with fail
  go_ret
  have hc := Hc.out
  rw [one_appendN] at hc
  have hb8 : ∀ c, isBlk (.slice va (ns.length + 1) vcap) c → isBlk (.slice na ns.length nc) c ∨ w.heap.size + 2 ≤ c := fun c ⟨n', c', e⟩ => by
    rcases Hb8.out c n' c' (by rw [one_appendN]; exact e) with h | h
    · right
      simpa [World.size_alloc, World.size_drew] using h
    · exact .inl h
  have F8 : Fr (MSq s (.slice na ns.length nc)) w w8 := (HF.out.drew.mono (fun _ _ h => h.elim)).trans Hf8.out (fun c _ h => .inr h)
  have k := (Fr.refl (fun c => c = s) w8).setC s 2 (.slice va (ns.length + 1) vcap) (fun _ => rfl)
  have hs : ¬ isBlk (.slice va (ns.length + 1) vcap) s := fun h => (hb8 s h).elim HP.out.apt.2.1 (fun h => by omega)
  have ht : ¬ isBlk (.slice va (ns.length + 1) vcap) tb := fun h => (hb8 tb h).elim HP.out.apt.2.2 (fun h => by omega)
  refine ⟨_, rfl, ⟨(Hrb.out.set 2 _).congr fun o ho => ?_, (HP.out.tks.frame F8 (fun h => h.elim (fun h => HP.out.apt.1 h.symm) HP.out.apt.2.2)).frame k (Ne.symm HP.out.apt.1), hc.frame k (fun b n c e h => hs (h ▸ ⟨n, c, e⟩)), HP.out.tok, HP.out.lt, by simp; omega, HP.out.apt.1, hs, ht⟩, ⟨F8.setC s 2 _ (fun _ => .inl rfl), fun c h => (hb8 c h).imp id (fun h => by omega)⟩⟩
  rcases lt5c ho with rfl | rfl | rfl | rfl | rfl
  all_goals rfl
theorem addCM {K' : Int → Nat → List Nd → Prop} {g : Int → Nat → List Nd → Mo} {nd : Nd} (h : St w s tb T nv M K (fun j ms => put nd j ms g)) (hK : ∀ j ms, K j ms → K' ms.length j (ms ++ [nd])) :
    Calls Tryz.prog 174 #[.pointer (some ⟨s, 0, none⟩), ndV nd] w fun e w' => ∃ x nv', e = .returned (.int .i64 x) ∧ St w' s tb T nv' M (K' x) (g x) ∧ Gm s w nv w' nv' := by
  rcases h with ⟨j, ms, P, hKK, C⟩ | ⟨er, q, j, ms, h0, P, hE⟩
  · simp only at C
    by_cases h : 200 ≤ ms.length
    · rw [put_bad h] at C
      refine (addM_full P nd h).mono ?_
      rintro e w1 ⟨rfl, P1, G1⟩
      exact ⟨_, _, rfl, .inr ⟨_, _, _, _, by decide, P1, C _ (.ret _)⟩, G1⟩
    · rw [put_ok h] at C
      refine (addM_ok P nd h).mono ?_
      rintro e w1 ⟨nv', rfl, P1, G1⟩
      exact ⟨_, _, rfl, .inl ⟨_, _, P1, hK _ _ hKK, C⟩, G1⟩
  · refine (addM_dead P h0 nd).mono ?_
    rintro e w1 ⟨rfl, f1⟩
    exact ⟨_, _, rfl, .inr ⟨_, _, _, _, h0, P.same f1, hE⟩, .same f1⟩
theorem bufN_of {f : Nat → Value} (h : ∀ o, o < ns.length * 8 → f o = bufN ns o) : NdP f ns := fun j hj o ho => by
  rw [h _ (by omega)]
  unfold bufN
  rw [show (j * 8 + o) / 8 = j by omega, show (j * 8 + o) % 8 = o by omega]
  simp [hj]
theorem NdP.buf {f : Nat → Value} (h : NdP f ns) : ∀ o, o < ns.length * 8 → f o = bufN ns o := fun o ho => by
  have := h (o / 8) (by omega) (o % 8) (by omega)
  rw [show o / 8 * 8 + o % 8 = o by omega] at this
  rw [this]
  unfold bufN
  simp [show o / 8 < ns.length by omega]
theorem SM.lnk (P : SM w s tb T i ns er q nv) {k : Nat} (hk : k < ns.length) (x : Int) : ∃ b cap f, nv = .slice (some ⟨b, 0, none⟩) ns.length cap ∧ Blk w b (cap * 8) f ∧ ns.length ≤ cap ∧ b ≠ s ∧ SM (w.setCell ⟨b, k * 8 + 4, none⟩ (.int .i64 x)) s tb T i (setNx ns k x) er q nv := by
  have ha := P.arr
  rcases ha with ⟨_, rfl⟩ | ⟨b, cap, f, rfl, hc, hb, hf⟩
  · simp at hk
  · have h1 : b ≠ s := fun e => P.apt.2.1 ⟨_, _, by rw [e]⟩
    have h2 : b ≠ tb := fun e => P.apt.2.2 ⟨_, _, by rw [e]⟩
    have F := (Fr.refl (fun c => c = b) w).setC b (k * 8 + 4) (.int .i64 x) (fun _ => rfl)
    refine ⟨b, cap, f, rfl, hb, hc, h1, P.blk.frame F (Ne.symm h1), P.tks.frame F (Ne.symm h2), .inr ⟨b, cap, _, by rw [setNx_len], by rw [setNx_len]; exact hc, hb.set _ _, ((bufN_of hf).link hk).buf⟩, P.tok, P.lt, by rw [setNx_len]; exact P.le, P.apt⟩
set_option maxRecDepth 100000 in
set_option maxHeartbeats 2000000 in
theorem linkM_no (P : SM w s tb T i ns 0 0 nv) {f la x : Int} (hf : f < 0) : Calls Tryz.prog 131 #[.pointer (some ⟨s, 0, none⟩), .int .i64 f, .int .i64 la, .int .i64 x] w fun e w' => e = .returned (.int .i64 x) ∧ w' = w := by
  obtain ⟨r0, r1, r2, r3, r4⟩ := P.regs
  obtain ⟨b1, b2⟩ := P.blt
  have hb : decide (f < 0) = true := decide_eq_true hf
  go_enter Tryz.func131, Tryz.ntmps131
  go_wp2_with fail
  go_ret
  exact ⟨rfl, rfl⟩
set_option maxRecDepth 100000 in
set_option maxHeartbeats 2000000 in
theorem linkM_yes (P : SM w s tb T i ns 0 0 nv) {f x : Int} {k : Nat} (hf : ¬ f < 0) (hk : k < ns.length) : Calls Tryz.prog 131 #[.pointer (some ⟨s, 0, none⟩), .int .i64 f, .int .i64 k, .int .i64 x] w fun e w' => e = .returned (.int .i64 f) ∧ SM w' s tb T i (setNx ns k x) 0 0 nv ∧ Gm s w nv w' nv := by
  obtain ⟨b, cap, fb, rfl, hb, hc, hbs, P2⟩ := P.lnk hk x
  obtain ⟨r0, r1, r2, r3, r4⟩ := P.regs
  obtain ⟨b1, b2⟩ := P.blt
  have hbl := hb.lt
  have hz := hb.frozen
  have hle := P.le
  have hbd : decide (f < 0) = false := decide_eq_false hf
  have hf0 : 0 ≤ f := by omega
  have ck := hb.cell (o := k * 8 + 4) (by omega)
  have hk2 : k < 200 := by omega
  have HP : Hid _ := P2
  clear P2 hf
  go_enter Tryz.func131, Tryz.ntmps131
  go_wp2_with fail
  go_ret
  exact ⟨rfl, HP.out, ⟨(Fr.refl _ _).setC b _ _ (fun _ => .inr ⟨_, _, rfl⟩), fun _ h => .inl h⟩⟩
set_option maxRecDepth 100000 in
set_option maxHeartbeats 2000000 in
theorem linkM_dead (P : SM w s tb T i ns er q nv) (h0 : er ≠ 0) (f la x : Int) : Calls Tryz.prog 131 #[.pointer (some ⟨s, 0, none⟩), .int .i64 f, .int .i64 la, .int .i64 x] w fun e w' => e = .returned (.int .i64 (-1)) ∧ w' = w := by
  obtain ⟨r0, r1, r2, r3, r4⟩ := P.regs
  obtain ⟨b1, b2⟩ := P.blt
  have hb : (er != 0) = true := by simpa using h0
  go_enter Tryz.func131, Tryz.ntmps131
  go_wp2_with fail
  go_ret
  exact ⟨rfl, rfl⟩
theorem linkC {K' : Int → Nat → List Nd → Prop} {g : Int → Nat → List Nd → Mo} {f la x : Int} (h : St w s tb T nv M K (fun j ms => lnk ms f la x fun f' ms' => g f' j ms')) (hv : ∀ j ms, K j ms → ¬ f < 0 → 0 ≤ la ∧ la < ms.length) (hK : ∀ j ms, K j ms → K' (if f < 0 then x else f) j (lk ms f la x)) :
    Calls Tryz.prog 131 #[.pointer (some ⟨s, 0, none⟩), .int .i64 f, .int .i64 la, .int .i64 x] w fun e w' => ∃ f', e = .returned (.int .i64 f') ∧ St w' s tb T nv M (K' f') (g f') ∧ Gm s w nv w' nv := by
  rcases h with ⟨j, ms, P, hKK, C⟩ | ⟨er, q, j, ms, h0, P, hE⟩
  · simp only at C
    rw [lnk_eq] at C
    have hk := hK _ _ hKK
    by_cases hf : f < 0
    · rw [if_pos hf] at C hk
      refine (linkM_no P hf).mono ?_
      rintro e w1 ⟨rfl, e1⟩
      subst w1
      have e2 : lk ms f la x = ms := by unfold lk; rw [if_pos hf]
      rw [e2] at C hk
      exact ⟨_, rfl, .inl ⟨_, _, P, hk, C⟩, .refl⟩
    · rw [if_neg hf] at C hk
      obtain ⟨h1, h2⟩ := hv _ _ hKK hf
      obtain ⟨kk, rfl⟩ : ∃ kk : Nat, la = kk := ⟨la.toNat, by omega⟩
      refine (linkM_yes P hf (by omega)).mono ?_
      rintro e w1 ⟨rfl, P1, G1⟩
      have e2 : lk ms f (kk : Int) x = setNx ms kk x := by unfold lk; rw [if_neg hf]; rfl
      rw [e2] at C hk
      exact ⟨_, rfl, .inl ⟨_, _, P1, hk, C⟩, G1⟩
  · refine (linkM_dead P h0 f la x).mono ?_
    rintro e w1 ⟨rfl, e1⟩
    subst w1
    exact ⟨_, rfl, .inr ⟨_, _, _, _, h0, P, hE⟩, .refl⟩
end
end Go.Proofs.Qxb6500277aGreat
