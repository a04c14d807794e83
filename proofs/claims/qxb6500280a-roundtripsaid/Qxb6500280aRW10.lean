/- list. -/
import Derived.Test.Qxb6500280aRW4
namespace Go.Proofs.Qxb6500280a
open Go Go.RowKit

/-- The tree's box at y, the nodes at b. -/
structure BX (y : Nat) (w : World) (b : Nat) (ns : List Nd) (r er q : Int) : Prop where
  bx : Blk w y 4 (bxC (.slice (some ⟨b, 0, none⟩) ns.length ns.length) r er q)
  nt : NT w b ns
  lo : b < y
section
variable {y : Nat} {w w' : World} {b : Nat} {ns : List Nd} {r er q : Int}
theorem BX.next (h : BX y w b ns r er q) (k : Fr (fun _ => False) w w') : BX y w' b ns r er q := ⟨h.bx.frame k (fun h => h), h.nt.frame k (fun h => h), h.lo⟩
theorem BX.start (h : NT w b ns) (r er q : Int) : BX w.heap.size (w.alloc (bxO b ns.length r er q)) b ns r er q := by
  have k1 : Fr (fun _ => False) w (w.alloc (bxO b ns.length r er q)) := (Fr.refl _ _).alloc _
  refine ⟨Blk.new w _ _ _ fun o ho => ?_, h.frame k1 (fun h => h), h.lt⟩
  obtain rfl | rfl | rfl | rfl : o = 0 ∨ o = 1 ∨ o = 2 ∨ o = 3 := by have : o < 4 := ho; omega
  all_goals rfl
theorem BX.box (h : BX y w b ns r er q) : w.cell? ⟨y, 0, none⟩ = some (.slice (some ⟨b, 0, none⟩) ns.length ns.length) ∧ w.cell? ⟨y, 1, none⟩ = some (.int .i64 r) ∧ w.cell? ⟨y, 2, none⟩ = some (.int .i64 er) ∧ w.cell? ⟨y, 3, none⟩ = some (.int .i64 q) ∧ y < w.heap.size ∧ b < w.heap.size :=
  ⟨h.bx.cell (by omega), h.bx.cell (by omega), h.bx.cell (by omega), h.bx.cell (by omega), h.bx.lt, h.nt.lt⟩
end
def ECs : Exps → Prop
  | .nil => True
  | .cons e es => EC e ∧ ECs es
/-- The root's next. -/
theorem Sub.nxt {ns : List Nd} {o : Nat} {nx : Int} {e : Exp} (h : Sub ns o (flE o nx e)) {x : Nat} (hx : x + 1 = o + szE e) : ∃ nd, (∃ hl : x < ns.length, ns[x] = nd) ∧ nd.nx = nx := by
  obtain ⟨l, nd, h1, h2⟩ := flE_split o e
  rw [h2] at h
  have := h.app.2.one
  rw [show o + l.length = x by omega] at this
  exact ⟨_, this, rfl⟩
set_option maxRecDepth 100000 in
set_option maxHeartbeats 8000000 in
theorem listF {es : Exps} (HE : ECs es) {w : World} {b : Nat} {ns : List Nd} {r er q : Int} {o : Nat} {lim : Nat} (hn : NT w b ns) (hl : ns.length ≤ 200) (hs : Sub ns o (flEs o es)) (he : NEs es) {d : Nat} (ho : OkEs d es) (hlim : o + szEs es ≤ lim) (hl2 : lim ≤ 200) :
    Calls Try.prog 80 #[trV b ns.length r er q, .int .i64 (hdE o es), .int .i64 lim] w fun v w' => (∃ s : ByteArray, v = .returned (.string s) ∧ s.data.toList = prL es) ∧ Fr (fun _ => False) w w' := by
  have HB : Hid (BX w.heap.size _ b ns r er q) := BX.start hn r er q
  have F0 : Hid (Fr (fun _ => False) w (w.alloc (bxO b ns.length r er q))) := (Fr.refl _ _).alloc _
  have hsz : (prL es).length ≤ 20000 := by have := len_L es he; omega
  have Hsz : Hid _ := hsz
  have Hs : Hid (Sub ns o (flEs o es)) := hs
  have He : Hid (NEs es) := he
  have Ho : Hid (OkEs d es) := ho
  have Hlim : Hid (o + szEs es ≤ lim) := hlim
  have HHE : Hid (ECs es) := HE
  clear hn hs he ho hlim HE hsz
  unfold trV treeV
  go_enter Try.func80, Try.ntmps80
  go_wp2_with fail
  obtain ⟨y, hy⟩ : ∃ y, y = w.heap.size := ⟨_, rfl⟩
  go_loopg [1, 7, 8] (szEs es) (fun g xv sv pv wr => ∃ (rs : Exps) (u : Nat) (s : ByteArray) (pr : Int), xv = .int .i64 (hdE u rs) ∧ sv = .string s ∧ pv = .int .i64 pr ∧ g = szEs rs ∧ Sub ns u (flEs u rs) ∧ NEs rs ∧ OkEs d rs ∧ ECs rs ∧ u + szEs rs ≤ lim ∧
    ((pr = -1 ∧ prL es = s.data.toList ++ prL rs) ∨ (0 ≤ pr ∧ pr + 1 = u ∧ prL es = s.data.toList ++ prR rs)) ∧ BX w.heap.size wr b ns r er q ∧ Fr (fun _ => False) w wr)
  case atStart => exact ⟨es, o, _, -1, rfl, rfl, rfl, rfl, Hs.out, He.out, Ho.out, HHE.out, Hlim.out, .inl ⟨rfl, rfl⟩, HB.out, F0.out⟩
  case round =>
    clear Hs He Ho HHE Hlim HB F0 hy
    obtain ⟨rs, u, s, pr, rfl, rfl, rfl, hg, hs, he, ho, hE, hlim, hpr, hB, hF⟩ := hrel
    have HB : Hid _ := hB
    have HF : Hid _ := hF
    have Hg : Hid _ := hg
    have Hpr : Hid _ := hpr
    have bs : s.size ≤ 20000 := by
      have h1 := Hsz.out
      rcases hpr with ⟨_, h2⟩ | ⟨_, _, h2⟩
      all_goals
        rw [h2, List.length_append, sz_list] at h1
        omega
    have p1 : -1 ≤ pr := by rcases hpr with ⟨h, _⟩ | ⟨h, _⟩ <;> omega
    obtain ⟨b0, b1, b2, b3, b4, b5⟩ := hB.box
    cases rs with
    | nil =>
      simp only [hdE]
      have z1 : decide (pr < -1) = false := decide_eq_false (by omega)
      clear hB hF hg hpr hs he ho hE hlim
      go_wp2_with fail
      go_ret
      refine ⟨⟨_, rfl, ?_⟩, HF.out⟩
      rcases Hpr.out with ⟨_, h2⟩ | ⟨_, _, h2⟩
      · rw [h2]; simp [prL]
      · rw [h2]; simp [prR]
    | cons e1 rs =>
      simp only [flEs] at hs
      simp only [NEs] at he
      simp only [OkEs] at ho
      simp only [ECs] at hE
      simp only [szEs] at hg hlim
      simp only [hdE]
      obtain ⟨sa, sr⟩ := hs.app
      rw [flE_len] at sr
      obtain ⟨x, ex, hx⟩ := rtE_nat u e1
      have cc := fun w' (hn : NT w' b ns) => hE.1 w' b ns r er q u _ lim hn hl sa he.1 ⟨_, _, ho.1⟩ (by rw [ex]; omega)
      obtain ⟨nd, hnd, hnx⟩ := sa.nxt hx
      have hxl := hnd.1
      have ln := len_B e1 he.1
      rw [ex] at cc ⊢
      have Hcc : Hid _ := cc
      have Hsr : Hid _ := sr
      have He : Hid _ := he.2
      have Ho : Hid _ := ho.2
      have HE : Hid _ := hE.2
      have Hlim : Hid _ := hlim
      have Hnd : Hid _ := hnd
      have Hnx : Hid _ := hnx
      have Hx : Hid _ := hx
      have ln2 : Hid ((prB e1).length ≤ 20000) := (show (prB e1).length ≤ 20000 by omega)
      have z1 : decide (pr < (x : Int)) = true := decide_eq_true (by rcases hpr with ⟨h, _⟩ | ⟨_, h, _⟩ <;> (have := szE_pos e1; omega))
      have z2 : decide ((x : Int) < (lim : Int)) = true := decide_eq_true (by omega)
      have z2' : decide (x < lim) = true := decide_eq_true (by omega)
      have z3 : decide (x < ns.length) = true := decide_eq_true hxl
      have z4 : decide ((x : Int) < (ns.length : Int)) = true := decide_eq_true (by omega)
      have x200 : x < 200 := by omega
      clear hB hF hg hpr hs he ho hE hlim hnd hnx hx ln sa sr cc ex
      rcases Hpr.out with ⟨q1, q2⟩ | ⟨q1, q3, q2⟩
      · subst q1
        have Hq2 : Hid _ := q2
        clear q2 Hpr p1
        go_wp2_with fail
        refine (Hcc.out _ HB.out.nt).mono ?_
        rintro v w2 ⟨⟨s2, rfl, hs2⟩, f2⟩
        have X2 : Hid _ := HB.out.next f2
        have F2 : Hid _ := HF.out.trans f2 (fun _ _ h => h)
        have bs2 := sz_str hs2 ln2.out
        have Hs2 : Hid _ := hs2
        clear b0 b1 b2 b3 b4 b5 HB HF f2 hs2
        obtain ⟨b0, b1, b2, b3, b4, b5⟩ := X2.out.box
        obtain ⟨n0, n1, n2, n3, n4, n5, n6, n7⟩ := X2.out.nt.node Hnd.out
        rw [Hnx.out] at n4
        go_wp2_with fail
        go_roundg (szEs rs)
        case measure => have h := Hg.out; have := szE_pos e1; simp only [szEs] at h; omega
        case rel => exact ⟨rs, u + szE e1, _, (x : Int), rfl, rfl, rfl, rfl, Hsr.out, He.out, Ho.out, HE.out, by have := Hlim.out; omega, .inr ⟨by omega, by have := Hx.out; omega, by rw [Hq2.out]; simp [prL, Hs2.out]⟩, X2.out, F2.out⟩
      · have Hq2 : Hid _ := q2
        have Hq3 : Hid _ := q3
        have z5 : decide ((0 : Int) ≤ pr) = true := decide_eq_true q1
        clear q2 q3 Hpr p1
        go_wp2_with fail
        refine (Hcc.out _ HB.out.nt).mono ?_
        rintro v w2 ⟨⟨s2, rfl, hs2⟩, f2⟩
        have X2 : Hid _ := HB.out.next f2
        have F2 : Hid _ := HF.out.trans f2 (fun _ _ h => h)
        have bs2 := sz_str hs2 ln2.out
        have Hs2 : Hid _ := hs2
        clear b0 b1 b2 b3 b4 b5 HB HF f2 hs2
        obtain ⟨b0, b1, b2, b3, b4, b5⟩ := X2.out.box
        obtain ⟨n0, n1, n2, n3, n4, n5, n6, n7⟩ := X2.out.nt.node Hnd.out
        rw [Hnx.out] at n4
        go_wp2_with fail
        go_roundg (szEs rs)
        case measure => have h := Hg.out; have := szE_pos e1; simp only [szEs] at h; omega
        case rel => exact ⟨rs, u + szE e1, _, (x : Int), rfl, rfl, rfl, rfl, Hsr.out, He.out, Ho.out, HE.out, by have := Hlim.out; omega, .inr ⟨by omega, by have := Hx.out; omega, by rw [Hq2.out]; simp [prR, Hs2.out]⟩, X2.out, F2.out⟩
end Go.Proofs.Qxb6500280a
