/- The code generator: expr, assignments, blocks. -/
import Derived.Test.Qxb6500277aGreatGE18
namespace Go.Proofs.Qxb6500277aGreat
open Go Go.RowKit

set_option maxRecDepth 100000 in
set_option maxHeartbeats 2000000 in
theorem stmt_asgv {G : Ge} (o : G.Ok) {ret : Int} (s : ByteArray) (p q0 : Int) (c : Exp) (ht : TyE c) {w : World} {P : Nat → Prop} {B : Gb} {b : Nat} {nx x : Int} (h : GX w G.g P G.hd B) (hc : G.Cv w P) (L : Lie G.ns b (flS b nx (.asg p (.var s q0) c))) (hx : x = rtS b (.asg p (.var s q0) c)) (W : WtS G.P0 G.li G.lr ret b (.asg p (.var s q0) c)) (hl : B.code.length + nS (.asg p (.var s q0) c) ≤ 39000) : Calls Tryz.prog 152 #[.pointer (some ⟨G.g, 0, none⟩), .int .i64 x] w (EmR w G.g P G.hd (addS G.P0 B b (.asg p (.var s q0) c))) := by
  rw [rtS_nat] at hx
  subst hx
  simp only [flS] at L
  obtain ⟨L1, L2, hN⟩ := L.two
  clear L
  simp only [szE] at L2 hN
  simp only [nS] at hl
  obtain ⟨k, hk⟩ : ∃ k, k = b + 1 + szE c := ⟨_, rfl⟩
  rw [← hk] at hN
  have hke : b + szS (.asg p (.var s q0) c) - 1 = k := by rw [hk]; simp only [szS, szE]; omega
  rw [hke]
  have hkl : k < G.ns.length := (List.getElem?_eq_some_iff.1 hN).1
  have qN := nodeG h hc hN
  obtain ⟨nd, hnd⟩ : ∃ nd : Nd, nd = ⟨4, rtE b (.var s q0), rtE (b + 1) c, -1, nx, 0, p, ⟨#[]⟩⟩ := ⟨_, rfl⟩
  rw [← hnd] at qN hN
  have Hnd : Hid _ := And.intro hnd (And.intro hk hke)
  clear hnd hke hk
  go_enter Tryz.func152, Tryz.ntmps152
  go_wp2_with fail
  refine qN.mono ?_
  rintro v w1 ⟨rfl, f1⟩
  have N := Nw.mk' h hc f1 nd
  clear qN f1
  unfold ndV
  go_upto_region 1 with fail
  obtain ⟨nb, hnb⟩ : ∃ nb, nb = w1.heap.size := ⟨_, rfl⟩
  obtain ⟨w2, hw2⟩ : ∃ w2, w2 = w1.alloc (.cells #[.int .i64 nd.kind, .int .i64 nd.a, .int .i64 nd.b, .int .i64 nd.c, .int .i64 nd.nx, .int .i64 nd.val, .int .i64 nd.pos, .string nd.name] 145) := ⟨_, rfl⟩
  rw [← hw2, ← hnb] at N
  rw [← hw2, ← hnb]
  clear hw2 hnb h hc w1
  have d0 : nd.kind = 4 := by rw [Hnd.out.1]
  have E := N.em
  have m0 : w2.cell? ⟨nb, 0, none⟩ = some (.int .i64 nd.kind) := N.bk.cell (by omega)
  have hnl := N.bk.lt
  rw [d0] at m0
  have q := assign_var o s p q0 c ht E.1 (N.c E) L1 L2 W (by omega) (nd := ⟨4, rtE b (.var s q0), rtE (b + 1) c, -1, nx, 0, p, ⟨#[]⟩⟩) (by show rtE b (.var s q0) = _; rw [rtE_nat]; simp [szE]) rfl
  clear m0 d0
  have hnd := Hnd.out.1
  have M : Blk w2 nb 8 (ndCell ⟨4, rtE b (.var s q0), rtE (b + 1) c, -1, nx, 0, p, ⟨#[]⟩⟩) := by rw [← hnd]; exact N.bk
  have m0 : w2.cell? ⟨nb, 0, none⟩ = some (.int .i64 4) := M.cell (by omega)
  have m1 : w2.cell? ⟨nb, 1, none⟩ = some (.int .i64 (rtE b (.var s q0))) := M.cell (by omega)
  have m2 : w2.cell? ⟨nb, 2, none⟩ = some (.int .i64 (rtE (b + 1) c)) := M.cell (by omega)
  have m3 : w2.cell? ⟨nb, 3, none⟩ = some (.int .i64 (-1)) := M.cell (by omega)
  have m4 : w2.cell? ⟨nb, 4, none⟩ = some (.int .i64 nx) := M.cell (by omega)
  have m5 : w2.cell? ⟨nb, 5, none⟩ = some (.int .i64 0) := M.cell (by omega)
  have m6 : w2.cell? ⟨nb, 6, none⟩ = some (.int .i64 p) := M.cell (by omega)
  have m7 : w2.cell? ⟨nb, 7, none⟩ = some (.string ⟨#[]⟩) := M.cell (by omega)
  unfold ndV at q
  clear M hnd
  go_wp2_with fail
  refine q.mono ?_
  rintro v w3 ⟨rfl, hE⟩
  have E3 := E.then (e := .returned (.tuple #[])) ⟨rfl, hE⟩
  clear hE q
  go_wp2_with fail
  go_end0
  exact N.done E3
set_option maxRecDepth 100000 in
set_option maxHeartbeats 2000000 in
theorem stmt_asgi {G : Ge} (o : G.Ok) {ret : Int} (p q0 : Int) (a i c : Exp) (hta : TyE a) (hti : TyE i) (ht : TyE c) {w : World} {P : Nat → Prop} {B : Gb} {b : Nat} {nx x : Int} (h : GX w G.g P G.hd B) (hc : G.Cv w P) (L : Lie G.ns b (flS b nx (.asg p (.idx q0 a i) c))) (hx : x = rtS b (.asg p (.idx q0 a i) c)) (W : WtS G.P0 G.li G.lr ret b (.asg p (.idx q0 a i) c)) (hl : B.code.length + nS (.asg p (.idx q0 a i) c) ≤ 39000) : Calls Tryz.prog 152 #[.pointer (some ⟨G.g, 0, none⟩), .int .i64 x] w (EmR w G.g P G.hd (addS G.P0 B b (.asg p (.idx q0 a i) c))) := by
  rw [rtS_nat] at hx
  subst hx
  simp only [flS] at L
  obtain ⟨L1, L2, hN⟩ := L.two
  clear L
  simp only [szE] at L2 hN
  simp only [nS] at hl
  obtain ⟨k, hk⟩ : ∃ k, k = b + (szE a + szE i + 1) + szE c := ⟨_, rfl⟩
  rw [← hk] at hN
  have hke : b + szS (.asg p (.idx q0 a i) c) - 1 = k := by rw [hk]; simp only [szS, szE]; omega
  rw [hke]
  have hkl : k < G.ns.length := (List.getElem?_eq_some_iff.1 hN).1
  have qN := nodeG h hc hN
  obtain ⟨nd, hnd⟩ : ∃ nd : Nd, nd = ⟨4, rtE b (.idx q0 a i), rtE (b + (szE a + szE i + 1)) c, -1, nx, 0, p, ⟨#[]⟩⟩ := ⟨_, rfl⟩
  rw [← hnd] at qN hN
  have Hnd : Hid _ := And.intro hnd (And.intro hk hke)
  clear hnd hke hk
  go_enter Tryz.func152, Tryz.ntmps152
  go_wp2_with fail
  refine qN.mono ?_
  rintro v w1 ⟨rfl, f1⟩
  have N := Nw.mk' h hc f1 nd
  clear qN f1
  unfold ndV
  go_upto_region 1 with fail
  obtain ⟨nb, hnb⟩ : ∃ nb, nb = w1.heap.size := ⟨_, rfl⟩
  obtain ⟨w2, hw2⟩ : ∃ w2, w2 = w1.alloc (.cells #[.int .i64 nd.kind, .int .i64 nd.a, .int .i64 nd.b, .int .i64 nd.c, .int .i64 nd.nx, .int .i64 nd.val, .int .i64 nd.pos, .string nd.name] 145) := ⟨_, rfl⟩
  rw [← hw2, ← hnb] at N
  rw [← hw2, ← hnb]
  clear hw2 hnb h hc w1
  have d0 : nd.kind = 4 := by rw [Hnd.out.1]
  have E := N.em
  have m0 : w2.cell? ⟨nb, 0, none⟩ = some (.int .i64 nd.kind) := N.bk.cell (by omega)
  have hnl := N.bk.lt
  rw [d0] at m0
  have q := assign_idx o p q0 a i c hta hti ht E.1 (N.c E) L1 L2 W (by omega) (nd := ⟨4, rtE b (.idx q0 a i), rtE (b + (szE a + szE i + 1)) c, -1, nx, 0, p, ⟨#[]⟩⟩) (by show rtE b (.idx q0 a i) = _; rw [rtE_nat]; simp only [szE]; omega) rfl
  clear m0 d0
  have hnd := Hnd.out.1
  have M : Blk w2 nb 8 (ndCell ⟨4, rtE b (.idx q0 a i), rtE (b + (szE a + szE i + 1)) c, -1, nx, 0, p, ⟨#[]⟩⟩) := by rw [← hnd]; exact N.bk
  have m0 : w2.cell? ⟨nb, 0, none⟩ = some (.int .i64 4) := M.cell (by omega)
  have m1 : w2.cell? ⟨nb, 1, none⟩ = some (.int .i64 (rtE b (.idx q0 a i))) := M.cell (by omega)
  have m2 : w2.cell? ⟨nb, 2, none⟩ = some (.int .i64 (rtE (b + (szE a + szE i + 1)) c)) := M.cell (by omega)
  have m3 : w2.cell? ⟨nb, 3, none⟩ = some (.int .i64 (-1)) := M.cell (by omega)
  have m4 : w2.cell? ⟨nb, 4, none⟩ = some (.int .i64 nx) := M.cell (by omega)
  have m5 : w2.cell? ⟨nb, 5, none⟩ = some (.int .i64 0) := M.cell (by omega)
  have m6 : w2.cell? ⟨nb, 6, none⟩ = some (.int .i64 p) := M.cell (by omega)
  have m7 : w2.cell? ⟨nb, 7, none⟩ = some (.string ⟨#[]⟩) := M.cell (by omega)
  unfold ndV at q
  clear M hnd
  go_wp2_with fail
  refine q.mono ?_
  rintro v w3 ⟨rfl, hE⟩
  have E3 := E.then (e := .returned (.tuple #[])) ⟨rfl, hE⟩
  clear hE q
  go_wp2_with fail
  go_end0
  exact N.done E3
set_option maxRecDepth 100000 in
set_option maxHeartbeats 2000000 in
theorem field_a (a b c d e f g : Int) (s : ByteArray) (w : World) : Sem.run Tryz.prog (Instr.field 145 (.agg #[.int .i64 a, .int .i64 b, .int .i64 c, .int .i64 d, .int .i64 e, .int .i64 f, .int .i64 g, .string s]) 1) w = .ok (.int .i64 b) w := by kernel_rfl
set_option maxRecDepth 100000 in
set_option maxHeartbeats 2000000 in
theorem blockG {G : Ge} {ret : Int} {n : Nat} (I : StG G ret n) (ss : Stms) (hn : szSs ss ≤ n) (ht : TySs ss) {w : World} {P : Nat → Prop} {B : Gb} {b x : Nat} {p : Int} (h : GX w G.g P G.hd B) (hc : G.Cv w P) (L : Lie G.ns b (flSs b ss)) (hN : G.ns[x]? = some ⟨2, hdS b ss, -1, -1, -1, 0, p, ⟨#[]⟩⟩) (W : WtSs G.P0 G.li G.lr ret b ss) (hl : B.code.length + nSs ss ≤ 39000) : Calls Tryz.prog 95 #[.pointer (some ⟨G.g, 0, none⟩), .int .i64 (x : Nat)] w (EmR w G.g P G.hd (addSs G.P0 B b ss)) := by
  have E0 := Em.nil h
  have qN := nodeG h hc hN
  obtain ⟨ha, hha⟩ : ∃ ha, ha = hdS b ss := ⟨_, rfl⟩
  rw [← hha] at qN
  have Hha : Hid _ := hha
  clear hha hN h
  unfold ndV at qN
  go_enter Tryz.func95, Tryz.ntmps95
  go_wp2_with fail
  refine qN.mono ?_
  rintro v w1 ⟨rfl, f1⟩
  have E := E0.same f1
  clear qN f1 E0
  go_wp2_with fail
  rw [field_a]
  go_wp2_with fail
  go_loopg [4] (szSs ss) (fun gm av wr => ∃ (b' : Nat) (es : Stms) (B' : Gb), av = .int .i64 (hdS b' es) ∧ Lie G.ns b' (flSs b' es) ∧ TySs es ∧ WtSs G.P0 G.li G.lr ret b' es ∧ szSs es ≤ gm ∧ szSs es ≤ n ∧ Em w P G.g G.hd wr B' ∧ addSs G.P0 B' b' es = addSs G.P0 B b ss ∧ B'.code.length + nSs es = B.code.length + nSs ss)
  case atStart => exact ⟨b, ss, B, by rw [Hha.out], L, ht, W, Nat.le_refl _, hn, E, rfl, rfl⟩
  case round =>
    obtain ⟨b', es, B', rfl, L', ht', W', hg, hn', E', hB', hlen⟩ := hrel
    have Hg : Hid _ := And.intro hB' (And.intro hlen (And.intro hg hn'))
    have hlb : B'.code.length + nSs es ≤ 39000 := by omega
    clear hB' hlen hg hn'
    cases es with
    | nil =>
      have hI : decide ((-1 : Int) ≥ 0) = false := rfl
      clear L' W' ht'
      simp only [hdS]
      go_wp2_with fail
      go_end0
      have hB := Hg.out.1
      have e0 : addSs G.P0 B' b' .nil = B' := by simp [addSs, cSs, fxSs]
      rw [e0] at hB
      rw [hB] at E'
      exact E'.ret
    | cons e es =>
      obtain ⟨Le, Les⟩ := L'.stms
      simp only [TySs] at ht'
      simp only [WtSs] at W'
      have hge : decide (rtS b' e ≥ 0) = true := decide_eq_true (by rw [rtS_nat]; omega)
      have hge2 : decide (0 ≤ rtS b' e) = true := decide_eq_true (by rw [rtS_nat]; omega)
      obtain ⟨nd', h1, h4⟩ := Le.rootS
      have hse : szS e ≤ n := by have := Hg.out.2.2.2; simp only [szSs] at this; omega
      have q := I e hse ht'.1 wr _ B' b' _ _ E'.1 (hc.em E') Le rfl W'.1 (by simp only [nSs] at hlb; omega)
      have Hh4 : Hid _ := And.intro h4 L'
      clear h4 L'
      simp only [hdS]
      have hroot := rtS_nat b' e
      obtain ⟨rt, hrt⟩ : ∃ rt, rt = b' + szS e - 1 := ⟨_, rfl⟩
      rw [← hrt] at hroot h1
      rw [hroot] at q hge hge2
      rw [hroot]
      have Hrt : Hid _ := And.intro hrt hroot
      clear hrt hroot
      go_wp2_with fail
      refine q.mono ?_
      rintro v w4 ⟨rfl, hE⟩
      have E4 := E'.then (e := .returned (.tuple #[])) ⟨rfl, hE⟩
      clear hE q
      have q := nodeG E4.1 (hc.em E4) h1
      go_wp2_with fail
      refine q.mono ?_
      rintro v w5 ⟨rfl, f5⟩
      have E5 := E4.same f5
      clear q f5
      unfold ndV
      go_wp2_with fail
      rw [field_nx]
      go_wp2_with fail
      go_roundg (gk - szS e)
      case measure =>
        have h1 := Hg.out.2.2.1
        have := szS_pos e
        simp only [szSs] at h1
        omega
      case rel =>
        refine ⟨b' + szS e, es, addS G.P0 B' b' e, ?_, Les, ht'.2, W'.2, ?_, ?_, E5, ?_, ?_⟩
        · rw [Hh4.out.1]
        · have := Hg.out.2.2.1; simp only [szSs] at this; omega
        · have := Hg.out.2.2.2; simp only [szSs] at this; omega
        · rw [← Hg.out.1]; simp [addSs, addS, cSs, fxSs, cS_len]
        · have := Hg.out.2.1; simp only [nSs] at this; rw [addS_len]; omega
theorem stG {G : Ge} (o : G.Ok) {ret : Int} : ∀ n, StG G ret n ∧ BkG G ret n
  | 0 => ⟨fun x hn => by have := szS_pos x; omega, fun ss hn ht w P B b x p h hc L hN W hl => blockG (n := 0) (fun x hn => by have := szS_pos x; omega) ss hn ht h hc L hN W hl⟩
  | n + 1 => by
    have I := stG o (ret := ret) n
    have J : StG G ret (n + 1) := fun x hn ht w P B b nx xi h hc L hx W hl => by
      cases x with
      | vd s p t e => simp only [TyS] at ht; exact stmt_vd o s p t e ht.2 h hc L hx W hl
      | prt p e => simp only [TyS] at ht; exact stmt_prt o p e ht h hc L hx W hl
      | ret p e => simp only [TyS] at ht; exact stmt_ret o p e ht h hc L hx W hl
      | exp e => simp only [TyS] at ht; exact stmt_exp o e ht h hc L hx W hl
      | iff p e bp ss => simp only [szS] at hn; simp only [TyS] at ht; exact stmt_iff o I.2 p bp e ss ht.1 (by omega) ht.2 h hc L hx W hl
      | whl p e bp ss => simp only [szS] at hn; simp only [TyS] at ht; exact stmt_whl o I.2 p bp e ss ht.1 (by omega) ht.2 h hc L hx W hl
      | ife p e bp ss cp cs => simp only [szS] at hn; simp only [TyS] at ht; exact stmt_ife o I.2 p bp cp e ss cs ht.1 (by omega) ht.2.1 (by omega) ht.2.2 h hc L hx W hl
      | asg p a c =>
        simp only [TyS] at ht
        cases a with
        | var s q => exact stmt_asgv o s p q c ht.2 h hc L hx W hl
        | idx q a i => simp only [TyE] at ht; exact stmt_asgi o p q a i c ht.1.1 ht.1.2 ht.2 h hc L hx W hl
        | _ => exact W.elim
    exact ⟨J, fun ss hn ht w P B b x p h hc L hN W hl => blockG J ss hn ht h hc L hN W hl⟩
theorem blkG {G : Ge} (o : G.Ok) {ret : Int} (ss : Stms) (ht : TySs ss) {w : World} {P : Nat → Prop} {B : Gb} {b x : Nat} {p : Int} (h : GX w G.g P G.hd B) (hc : G.Cv w P) (L : Lie G.ns b (flSs b ss)) (hN : G.ns[x]? = some ⟨2, hdS b ss, -1, -1, -1, 0, p, ⟨#[]⟩⟩) (W : WtSs G.P0 G.li G.lr ret b ss) (hl : B.code.length + nSs ss ≤ 39000) : Calls Tryz.prog 95 #[.pointer (some ⟨G.g, 0, none⟩), .int .i64 (x : Nat)] w (EmR w G.g P G.hd (addSs G.P0 B b ss)) :=
  (stG o (szSs ss)).2 ss (Nat.le_refl _) ht w P B b x p h hc L hN W hl
end Go.Proofs.Qxb6500277aGreat
