/- Print. -/
import Derived.Test.Qxb6500280aRX3
import Derived.Deep.QuietTactic
import Derived.BigQuiet
namespace Go.Proofs.Qxb6500280a
open Go Go.RowKit

def tyS (t : Int) : ByteArray := ⟨(tyX t).toArray⟩
theorem tyS_l (t : Int) : (tyS t).data.toList = tyX t := by simp [tyS]
theorem typeS {t : Int} (ht : 0 ≤ t ∧ t < 8) (w : World) : Calls Try.prog 28 #[.int .i64 t] w fun e w' => e = .returned (.string (tyS t)) ∧ w' = w := by
  refine (typeF ht w).mono ?_
  rintro e w' ⟨⟨s, rfl, hs⟩, rfl⟩
  exact ⟨by rw [show s = tyS t from ba_ext (by rw [hs, tyS_l])], rfl⟩
/-- The tree's box at y, the function's node at z. -/
structure PX (y z : Nat) (w : World) (b : Nat) (ns : List Nd) (r er q : Int) (nd : Nd) : Prop where
  bx : BX y w b ns r er q
  nd : Blk w z 8 (ndCell nd)
section
variable {y z : Nat} {w w' : World} {b : Nat} {ns : List Nd} {r er q : Int} {nd : Nd}
theorem PX.next (h : PX y z w b ns r er q nd) (k : Fr (fun _ => False) w w') : PX y z w' b ns r er q nd := ⟨h.bx.next k, h.nd.frame k (fun h => h)⟩
theorem PX.start (h : BX y w b ns r er q) (nd : Nd) : PX y w.heap.size (w.alloc (ndO nd)) b ns r er q nd := by
  refine ⟨h.next ((Fr.refl _ _).alloc _), Blk.new w _ _ _ fun o ho => ?_⟩
  obtain rfl | rfl | rfl | rfl | rfl | rfl | rfl | rfl : o = 0 ∨ o = 1 ∨ o = 2 ∨ o = 3 ∨ o = 4 ∨ o = 5 ∨ o = 6 ∨ o = 7 := by have : o < 8 := ho; omega
  all_goals rfl
theorem PX.node (h : PX y z w b ns r er q nd) : w.cell? ⟨z, 0, none⟩ = some (.int .i64 nd.kind) ∧ w.cell? ⟨z, 1, none⟩ = some (.int .i64 nd.a) ∧ w.cell? ⟨z, 2, none⟩ = some (.int .i64 nd.b) ∧ w.cell? ⟨z, 3, none⟩ = some (.int .i64 nd.c) ∧
    w.cell? ⟨z, 4, none⟩ = some (.int .i64 nd.nx) ∧ w.cell? ⟨z, 5, none⟩ = some (.int .i64 nd.val) ∧ w.cell? ⟨z, 6, none⟩ = some (.int .i64 nd.pos) ∧ w.cell? ⟨z, 7, none⟩ = some (.string nd.name) ∧ z < w.heap.size :=
  ⟨h.nd.cell (by omega), h.nd.cell (by omega), h.nd.cell (by omega), h.nd.cell (by omega), h.nd.cell (by omega), h.nd.cell (by omega), h.nd.cell (by omega), h.nd.cell (by omega), h.nd.lt⟩
end
theorem rtF_nat (o : Nat) (f : Fnc) : ∃ x : Nat, rtF o f = (x : Int) ∧ x + 1 = o + szF f := ⟨o + szF f - 1, by have := szF_pos f; unfold rtF; omega, by have := szF_pos f; omega⟩
/-- The parameters in the arena. -/
theorem Sub.prm {ns : List Nd} {u : Nat} {x : Prm} {xs : List Prm} (h : Sub ns u (flP u (x :: xs))) : (∃ hl : u < ns.length, ns[u] = ⟨1, -1, -1, -1, hdP (u + 1) xs, x.t, x.p, x.s⟩) ∧ Sub ns (u + 1) (flP (u + 1) xs) := by
  cases xs with
  | nil =>
    simp only [flP] at h
    exact ⟨h.one, fun j hj => by simp [flP] at hj⟩
  | cons y r =>
    have e : flP u (x :: y :: r) = [⟨1, -1, -1, -1, hdP (u + 1) (y :: r), x.t, x.p, x.s⟩] ++ flP (u + 1) (y :: r) := rfl
    rw [e] at h
    obtain ⟨h1, h2⟩ := h.app
    exact ⟨h1.one, h2⟩
set_option maxRecDepth 100000 in
set_option maxHeartbeats 16000000 in
theorem printF {fs : List Fnc} {w : World} {b : Nat} {ns : List Nd} {er q : Int} (hn : NT w b ns) (hg : Good fs) (hns : ns = flFs 0 fs) :
    Calls Try.prog 15 #[trV b ns.length (hdF 0 fs) er q] w fun v w' => (∃ s : ByteArray, v = .returned (.string s) ∧ s.data.toList = prFs fs) ∧ Fr (fun _ => False) w w' := by
  have hl : ns.length ≤ 200 := by rw [hns, flFs_len]; exact hg.sz
  have hs : Sub ns 0 (flFs 0 fs) := fun j hj => by rw [hns, Nat.zero_add]; exact List.getElem?_eq_getElem hj
  have hsz : (prFs fs).length ≤ 20000 := by have := len_Fs fs hg.nm; have := hg.sz; omega
  have hlen : szFs fs = ns.length := by rw [hns, flFs_len]
  have HB : Hid (BX w.heap.size _ b ns (hdF 0 fs) er q) := BX.start hn (hdF 0 fs) er q
  have F0 : Hid (Fr (fun _ => False) w (w.alloc (bxO b ns.length (hdF 0 fs) er q))) := (Fr.refl _ _).alloc _
  obtain ⟨r, hr⟩ : ∃ r, r = hdF 0 fs := ⟨_, rfl⟩
  rw [← hr] at HB F0 ⊢
  have Hr : Hid _ := hr
  have Hsz : Hid _ := hsz
  have Hs : Hid _ := hs
  have Hok : Hid _ := hg.ok
  have Hnm : Hid _ := hg.nm
  have Hlen : Hid _ := hlen
  clear hn hg hns hs hsz hlen hr
  unfold trV treeV
  go_enter Try.func15, Try.ntmps15
  go_wp2_with fail
  go_loopg [3, 4, 5] (szFs fs) (fun g sv xv pv wr => ∃ (rs : List Fnc) (u : Nat) (s : ByteArray) (pr : Int), xv = .int .i64 (hdF u rs) ∧ sv = .string s ∧ pv = .int .i64 pr ∧ g = szFs rs ∧ Sub ns u (flFs u rs) ∧ (∀ f ∈ rs, OkF f) ∧ (∀ f ∈ rs, NFn f) ∧ u + szFs rs = ns.length ∧
    (pr = -1 ∨ (0 ≤ pr ∧ pr + 1 = u)) ∧ prFs fs = s.data.toList ++ prFs rs ∧ BX w.heap.size wr b ns r er q ∧ Fr (fun _ => False) w wr)
  case atStart => exact ⟨fs, 0, _, -1, by rw [Hr.out], rfl, rfl, rfl, Hs.out, Hok.out, Hnm.out, by have := Hlen.out; omega, .inl rfl, rfl, HB.out, F0.out⟩
  case round =>
    clear Hs Hok Hnm Hlen HB F0 Hr
    obtain ⟨rs, u, s, pr, rfl, rfl, rfl, hg, hs, ho, he, hux, hpr, htx, hB, hF⟩ := hrel
    have HB : Hid _ := hB
    have HF : Hid _ := hF
    have Hg : Hid _ := hg
    have Hpr : Hid _ := hpr
    have Htx : Hid _ := htx
    have Hux : Hid _ := hux
    have bs : s.size ≤ 20000 := by
      have h1 := Hsz.out
      rw [htx, List.length_append, sz_list] at h1
      omega
    have p1 : -1 ≤ pr := by rcases hpr with h | ⟨h, _⟩ <;> omega
    obtain ⟨b0, b1, b2, b3, b4, b5⟩ := hB.box
    cases rs with
    | nil =>
      simp only [hdF]
      have z1 : decide (pr < -1) = false := decide_eq_false (by omega)
      clear hB hF hg hpr hs he ho hux htx
      go_wp2_with fail
      go_ret
      refine ⟨⟨_, rfl, ?_⟩, HF.out⟩
      rw [Htx.out]
      simp [prFs]
    | cons f1 rs =>
      simp only [flFs] at hs
      simp only [szFs] at hg hux
      simp only [hdF]
      obtain ⟨sa, sr⟩ := hs.app
      rw [flF_len] at sr
      obtain ⟨x, ex, hx⟩ := rtF_nat u f1
      have o1 := ho f1 (by simp)
      have n1 := he f1 (by simp)
      have o2 : ∀ f ∈ rs, OkF f := fun f hf => ho f (by simp [hf])
      have n2 : ∀ f ∈ rs, NFn f := fun f hf => he f (by simp [hf])
      obtain ⟨nx, hnx⟩ : ∃ nx, nx = hdF (u + szF f1) rs := ⟨_, rfl⟩
      rw [← hnx] at sa
      unfold flF at sa
      obtain ⟨s12, s3⟩ := sa.app
      obtain ⟨s1, s2⟩ := s12.app
      rw [flP_len] at s2
      rw [List.length_append, flP_len, flB_len] at s3
      have hnd := s3.one
      rw [show u + (f1.ps.length + (szSs f1.ss + 1)) = x by unfold szF at hx; omega] at hnd
      obtain ⟨rb, erb⟩ : ∃ rb, rb = u + f1.ps.length + szSs f1.ss := ⟨_, rfl⟩
      rw [← erb] at hnd
      have hxl := hnd.1
      have lps := len_Ps f1.ps n1.2.1
      have lss := len_Ss f1.ss n1.2.2
      have lid := id_len n1.1
      rw [sz_list] at lid
      have lty := tyX_len f1.t
      rw [← tyS_l, sz_list] at lty
      have cb := fun w' (hn : NT w' b ns) => blockX (stSs f1.ss) w' b ns r er q (u + f1.ps.length) rb x f1.bp hn hl s2 n1.2.2 ⟨_, o1.2.2⟩ erb (by unfold szF at hx; omega)
      have Hcb : Hid _ := cb
      have Hlb : Hid ((prBl f1.ss).length ≤ 20000) := (show (prBl f1.ss).length ≤ 20000 by unfold prBl; simp only [List.length_append, List.length_cons, List.length_nil]; unfold szF at hux; omega)
      have Hlp : Hid ((prPs f1.ps).length ≤ 20000) := (show (prPs f1.ps).length ≤ 20000 by unfold szF at hux; omega)
      have Hpl : Hid (u + f1.ps.length ≤ x) := (show u + f1.ps.length ≤ x by unfold szF at hx; omega)
      have Ho1 : Hid _ := o1
      have Hn1 : Hid _ := n1
      have Ho2 : Hid _ := o2
      have Hn2 : Hid _ := n2
      have Hs1 : Hid _ := s1
      have Hsr : Hid _ := sr
      have Hx : Hid _ := hx
      have Hnd : Hid _ := hnd
      have Hnx : Hid _ := hnx
      obtain ⟨m0, m1, m2, m3, m4, m5, m6, m7⟩ := hB.nt.node hnd
      simp only at m0 m1 m2 m3 m4 m5 m6 m7
      rw [ex]
      have z1 : decide (pr < (x : Int)) = true := decide_eq_true (by rcases hpr with h | ⟨_, h⟩ <;> (have := szF_pos f1; omega))
      have z3 : decide (x < ns.length) = true := decide_eq_true hxl
      have z4 : decide ((x : Int) < (ns.length : Int)) = true := decide_eq_true (by omega)
      have x200 : x < 200 := by omega
      have HP : Hid _ := PX.start hB ⟨0, hdP u f1.ps, (rb : Int), -1, nx, f1.t, f1.p, f1.s⟩
      have FP : Hid (Fr (fun _ => False) w (wr.alloc (ndO ⟨0, hdP u f1.ps, (rb : Int), -1, nx, f1.t, f1.p, f1.s⟩))) := hF.alloc _
      obtain ⟨hp, hhp⟩ : ∃ hp, hp = hdP u f1.ps := ⟨_, rfl⟩
      rw [← hhp] at m1 HP FP
      have Hhp : Hid _ := hhp
      clear hB hF hg hpr hs he ho hux htx hnd hnx hx lps lss cb ex erb o1 n1 o2 n2 s1 s2 s3 s12 sr sa hhp
      go_wp2_with fail
      have HPo : Hid _ := HP
      obtain ⟨y2, hy2⟩ : ∃ y2, y2 = wr.heap.size := ⟨_, rfl⟩
      rw [← hy2]
      have Hy2 : Hid _ := hy2
      clear b0 b1 b2 b3 b4 b5 m0 m1 m2 m3 m4 m5 m6 m7 hy2
      go_loopg [3, 7, 8] (f1.ps.length + 1) (fun g sv xv pv wq => ∃ (xs : List Prm) (t : Nat) (s2 : ByteArray) (pq : Int), xv = .int .i64 (hdP t xs) ∧ sv = .string s2 ∧ pv = .int .i64 pq ∧ g = xs.length + 1 ∧ Sub ns t (flP t xs) ∧ (∀ p ∈ xs, OkP p) ∧ (∀ p ∈ xs, IdOk p.s) ∧ t + xs.length ≤ x ∧ s2.size + 48 * xs.length ≤ 30000 ∧
        ((pq = -1 ∧ s2.data.toList ++ prPs xs = s.data.toList ++ ([102, 117, 110, 99, 32] ++ (f1.s.data.toList ++ ([32, 40, 32] ++ prPs f1.ps)))) ∨ (0 ≤ pq ∧ pq + 1 = t ∧ s2.data.toList ++ prPr xs = s.data.toList ++ ([102, 117, 110, 99, 32] ++ (f1.s.data.toList ++ ([32, 40, 32] ++ prPs f1.ps))))) ∧
        PX w.heap.size y2 wq b ns r er q ⟨0, hp, (rb : Int), -1, nx, f1.t, f1.p, f1.s⟩ ∧ Fr (fun _ => False) w wq)
      case atStart => exact ⟨f1.ps, u, _, -1, by rw [Hhp.out], rfl, rfl, rfl, Hs1.out, Ho1.out.2.1, Hn1.out.2.1, Hpl.out, by
        have := Hpl.out
        have e1 : (⟨#[102, 117, 110, 99, 32]⟩ : ByteArray).size = 5 := rfl
        have e2 : (⟨#[32, 40, 32]⟩ : ByteArray).size = 3 := rfl
        simp only [ByteArray.size_append, e1, e2]
        omega, .inl ⟨rfl, by simp⟩, by rw [Hy2.out]; exact HPo.out, FP.out⟩
      case round =>
        clear Hs1 HP HPo FP Hhp Hy2 Hpl
        obtain ⟨xs, t, s2, pq, rfl, rfl, rfl, hg2, hs, ho, he, htx2, hsz2, hpq, hP, hF⟩ := hrel
        have HP : Hid _ := hP
        have HF : Hid _ := hF
        have Hg2 : Hid _ := hg2
        have Hpq : Hid _ := hpq
        have Hsz2 : Hid _ := hsz2
        have Htx2 : Hid _ := htx2
        have bs2 : s2.size ≤ 30000 := by omega
        have p2 : -1 ≤ pq := by rcases hpq with ⟨h, _⟩ | ⟨h, _⟩ <;> omega
        obtain ⟨b0, b1, b2, b3, b4, b5⟩ := hP.bx.box
        obtain ⟨n0, n1, n2, n3, n4, n5, n6, n7, n8⟩ := hP.node
        simp only at n0 n1 n2 n3 n4 n5 n6 n7
        cases xs with
        | nil =>
          simp only [hdP]
          have z5 : decide (pq < -1) = false := decide_eq_false (by omega)
          clear hP hF hg2 hpq hs he ho htx2 hsz2
          go_wp2_with fail
          refine (typeS Ho1.out.1 _).mono ?_
          rintro v w3 ⟨rfl, rfl⟩
          go_wp2_with fail
          refine (Hcb.out _ HP.out.bx.nt).mono ?_
          rintro v w4 ⟨⟨s4, rfl, hs4⟩, f4⟩
          have P4 : Hid _ := HP.out.next f4
          have F4 : Hid _ := HF.out.trans f4 (fun _ _ h => h)
          have bs4 := sz_str hs4 Hlb.out
          have Hs4 : Hid _ := hs4
          clear b0 b1 b2 b3 b4 b5 n0 n1 n2 n3 n4 n5 n6 n7 n8 HP HF f4 hs4
          obtain ⟨b0, b1, b2, b3, b4, b5⟩ := P4.out.bx.box
          obtain ⟨n0, n1, n2, n3, n4, n5, n6, n7, n8⟩ := P4.out.node
          obtain ⟨m0, m1, m2, m3, m4, m5, m6, m7⟩ := P4.out.bx.nt.node Hnd.out
          simp only at n0 n1 n2 n3 n4 n5 n6 n7 m0 m1 m2 m3 m4 m5 m6 m7
          go_wp2_with fail
          go_roundg (szFs rs)
          case measure => have h := Hg.out; have := szF_pos f1; simp only [szFs] at h; omega
          case rel =>
            refine ⟨rs, u + szF f1, _, (x : Int), by rw [← Hnx.out], rfl, rfl, rfl, Hsr.out, Ho2.out, Hn2.out, by have := Hux.out; simp only [szFs] at this; omega, .inr ⟨by omega, by have := Hx.out; omega⟩, ?_, P4.out.bx, F4.out⟩
            have key : s2.data.toList = s.data.toList ++ ([102, 117, 110, 99, 32] ++ (f1.s.data.toList ++ ([32, 40, 32] ++ prPs f1.ps))) := by
              rcases Hpq.out with ⟨_, h⟩ | ⟨_, _, h⟩
              · simpa [prPs] using h
              · simpa [prPr] using h
            rw [Htx.out]
            simp [prFs, prF, key, tyS_l, Hs4.out]
        | cons x1 xs =>
          obtain ⟨hq, hr⟩ := hs.prm
          have o3 := ho x1 (by simp)
          have n3' := he x1 (by simp)
          have o4 : ∀ p ∈ xs, OkP p := fun f hf => ho f (by simp [hf])
          have n4' : ∀ p ∈ xs, IdOk p.s := fun f hf => he f (by simp [hf])
          have hql := hq.1
          have lx := id_len n3'
          rw [sz_list] at lx
          have ltx := tyX_len x1.t
          rw [← tyS_l, sz_list] at ltx
          have ltx' := Nat.le_trans lx (Nat.le_refl 8)
          obtain ⟨m0, m1, m2, m3, m4, m5, m6, m7⟩ := hP.bx.nt.node hq
          simp only at m0 m1 m2 m3 m4 m5 m6 m7
          obtain ⟨hn2, hhn2⟩ : ∃ hn2, hn2 = hdP (t + 1) xs := ⟨_, rfl⟩
          rw [← hhn2] at m4
          have Hhn2 : Hid _ := hhn2
          have Hr2 : Hid _ := hr
          have Ho3 : Hid _ := o3
          have Ho4 : Hid _ := o4
          have Hn4 : Hid _ := n4'
          simp only [hdP]
          have z5 : decide (pq < (t : Int)) = true := decide_eq_true (by rcases hpq with ⟨h, _⟩ | ⟨_, h, _⟩ <;> omega)
          have z6 : decide ((t : Int) < (x : Int)) = true := decide_eq_true (by simp only [List.length_cons] at htx2; omega)
          have z6' : decide (t < x) = true := decide_eq_true (by simp only [List.length_cons] at htx2; omega)
          have z7 : decide (t < ns.length) = true := decide_eq_true hql
          have z8 : decide ((t : Int) < (ns.length : Int)) = true := decide_eq_true (by omega)
          have z9 : (t : Int) < (ns.length : Int) := by omega
          have t200 : t < 200 := by omega
          clear hP hF hg2 hpq hs he ho htx2 hsz2 hq hr o3 n3' o4 n4' hhn2
          rcases Hpq.out with ⟨q1, q2⟩ | ⟨q1, q3, q2⟩
          · subst q1
            have Hq2 : Hid _ := q2
            clear q2 Hpq p2
            go_wp2_with fail
            go_quiet (first | (go_at_call 28; exact Calls.quiet_of_same (typeS Ho3.out _)))
            go_wp2_with fail
            go_roundg (xs.length + 1)
            case measure => have h := Hg2.out; simp only [List.length_cons] at h; omega
            case rel =>
              refine ⟨xs, t + 1, _, (t : Int), by rw [← Hhn2.out], rfl, rfl, rfl, Hr2.out, Ho4.out, Hn4.out, by have h := Htx2.out; simp only [List.length_cons] at h; omega, ?_, .inr ⟨by omega, by omega, ?_⟩, HP.out.next ((Fr.refl _ _).drewN _), HF.out.drewN _⟩
              · have h := Hsz2.out
                simp only [List.length_cons] at h
                have e1 : (⟨#[32]⟩ : ByteArray).size = 1 := rfl
                simp only [ByteArray.size_append, e1]
                omega
              · rw [← Hq2.out]
                simp [prPs, prP1, tyS_l]
          · have Hq2 : Hid _ := q2
            have Hq3 : Hid _ := q3
            have y5 : decide ((0 : Int) ≤ pq) = true := decide_eq_true q1
            clear q2 q3 Hpq p2
            go_wp2_with fail
            go_quiet (first | (go_at_call 28; exact Calls.quiet_of_same (typeS Ho3.out _)))
            go_wp2_with fail
            go_roundg (xs.length + 1)
            case measure => have h := Hg2.out; simp only [List.length_cons] at h; omega
            case rel =>
              refine ⟨xs, t + 1, _, (t : Int), by rw [← Hhn2.out], rfl, rfl, rfl, Hr2.out, Ho4.out, Hn4.out, by have h := Htx2.out; simp only [List.length_cons] at h; omega, ?_, .inr ⟨by omega, by omega, ?_⟩, HP.out.next ((Fr.refl _ _).drewN _), HF.out.drewN _⟩
              · have h := Hsz2.out
                simp only [List.length_cons] at h
                have e1 : (⟨#[32]⟩ : ByteArray).size = 1 := rfl
                have e2 : (⟨#[44, 32]⟩ : ByteArray).size = 2 := rfl
                simp only [ByteArray.size_append, e1, e2]
                omega
              · rw [← Hq2.out]
                simp [prPr, prP1, tyS_l]
end Go.Proofs.Qxb6500280a
