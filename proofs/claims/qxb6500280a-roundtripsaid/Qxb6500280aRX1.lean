/- blockText; what stmtText answers. -/
import Derived.Test.Qxb6500280aRW11
namespace Go.Proofs.Qxb6500280a
open Go Go.RowKit

def SCt (s : Stm) : Prop := ∀ (w : World) (b : Nat) (ns : List Nd) (r er q : Int) (o : Nat) (nx : Int), NT w b ns → ns.length ≤ 200 → Sub ns o (flS o nx s) → NS s → (∃ d, OkS d s) →
  Calls Try.prog 44 #[trV b ns.length r er q, .int .i64 (rtS o s)] w fun v w' => (∃ t : ByteArray, v = .returned (.string t) ∧ t.data.toList = prS s) ∧ Fr (fun _ => False) w w'
def SCs : Stms → Prop
  | .nil => True
  | .cons e es => SCt e ∧ SCs es
def BCt (ss : Stms) : Prop := ∀ (w : World) (b : Nat) (ns : List Nd) (r er q : Int) (o x lim : Nat) (bp : Int), NT w b ns → ns.length ≤ 200 → Sub ns o (flB o bp ss) → NSs ss → (∃ d, OkSs d ss) → x = o + szSs ss → x < lim →
  Calls Try.prog 29 #[trV b ns.length r er q, .int .i64 x, .int .i64 lim] w fun v w' => (∃ t : ByteArray, v = .returned (.string t) ∧ t.data.toList = prBl ss) ∧ Fr (fun _ => False) w w'
theorem rtS_nat (o : Nat) (e : Stm) : ∃ x : Nat, rtS o e = (x : Int) ∧ x + 1 = o + szS e := ⟨o + szS e - 1, by have := szS_pos e; unfold rtS; omega, by have := szS_pos e; omega⟩
theorem Sub.nxtS {ns : List Nd} {o : Nat} {nx : Int} {e : Stm} (h : Sub ns o (flS o nx e)) {x : Nat} (hx : x + 1 = o + szS e) : ∃ nd, (∃ hl : x < ns.length, ns[x] = nd) ∧ nd.nx = nx := by
  obtain ⟨l, nd, h1, h2⟩ := flS_split o e
  rw [h2] at h
  have := h.app.2.one
  rw [show o + l.length = x by omega] at this
  exact ⟨_, this, rfl⟩
set_option maxRecDepth 100000 in
set_option maxHeartbeats 8000000 in
theorem blockX {ss : Stms} (HE : SCs ss) : BCt ss := fun w b ns r er q o x lim bp hn hl hs he ho hxo hlim => by
  obtain ⟨d, ho⟩ := ho
  unfold flB at hs
  obtain ⟨sa, sr⟩ := hs.app
  rw [flSs_len, ← hxo] at sr
  have hx := sr.one
  have hxl := hx.1
  obtain ⟨m0, m1, m2, m3, m4, m5, m6, m7⟩ := hn.node hx
  simp only at m0 m1 m2 m3 m4 m5 m6 m7
  have lb := hn.lt
  have HB : Hid (BX w.heap.size _ b ns r er q) := BX.start hn r er q
  have F0 : Hid (Fr (fun _ => False) w (w.alloc (bxO b ns.length r er q))) := (Fr.refl _ _).alloc _
  have hsz : (prSs ss).length ≤ 19000 := by have := len_Ss ss he; omega
  have Hsz : Hid _ := hsz
  have Hs : Hid (Sub ns o (flSs o ss)) := sa
  have He : Hid (NSs ss) := he
  have Ho : Hid (OkSs d ss) := ho
  have Hxo : Hid (x = o + szSs ss) := hxo
  have HHE : Hid (SCs ss) := HE
  have y1 : decide ((x : Int) < (lim : Int)) = true := decide_eq_true (by omega)
  have y2 : decide (x < lim) = true := decide_eq_true (by omega)
  have y3 : decide (x < ns.length) = true := decide_eq_true hxl
  have y4 : decide ((x : Int) < (ns.length : Int)) = true := decide_eq_true (by omega)
  clear hn hs he ho hxo HE hsz sa sr hx hlim
  unfold trV treeV
  obtain ⟨hh, hhe⟩ : ∃ hh, hh = hdS o ss := ⟨_, rfl⟩
  rw [← hhe] at m1
  have Hhe : Hid _ := hhe
  clear hhe
  go_enter Try.func29, Try.ntmps29
  go_wp2_with fail
  go_loopg [7, 8, 9] (szSs ss) (fun g sv xv pv wr => ∃ (rs : Stms) (u : Nat) (s : ByteArray) (pr : Int), xv = .int .i64 (hdS u rs) ∧ sv = .string s ∧ pv = .int .i64 pr ∧ g = szSs rs ∧ Sub ns u (flSs u rs) ∧ NSs rs ∧ OkSs d rs ∧ SCs rs ∧ u + szSs rs = x ∧
    (pr = -1 ∨ (0 ≤ pr ∧ pr + 1 = u)) ∧ prBl ss = s.data.toList ++ (prSs rs ++ [125, 32]) ∧ BX w.heap.size wr b ns r er q ∧ Fr (fun _ => False) w wr)
  case atStart => exact ⟨ss, o, _, -1, by rw [Hhe.out], rfl, rfl, rfl, Hs.out, He.out, Ho.out, HHE.out, Hxo.out.symm, .inl rfl, rfl, HB.out, F0.out⟩
  case round =>
    clear Hs He Ho HHE Hxo HB F0 Hhe
    obtain ⟨rs, u, s, pr, rfl, rfl, rfl, hg, hs, he, ho, hE, hux, hpr, htx, hB, hF⟩ := hrel
    have HB : Hid _ := hB
    have HF : Hid _ := hF
    have Hg : Hid _ := hg
    have Hpr : Hid _ := hpr
    have Htx : Hid _ := htx
    have bs : s.size ≤ 19004 := by
      have h1 := Hsz.out
      have h2 := congrArg List.length htx
      simp only [prBl, List.length_append, sz_list, List.length_cons, List.length_nil] at h2
      omega
    have p1 : -1 ≤ pr := by rcases hpr with h | ⟨h, _⟩ <;> omega
    clear m0 m1 m2 m3 m4 m5 m6 m7 lb
    obtain ⟨b0, b1, b2, b3, b4, b5⟩ := hB.box
    cases rs with
    | nil =>
      simp only [hdS]
      have z1 : decide (pr < -1) = false := decide_eq_false (by omega)
      clear hB hF hg hpr hs he ho hE hux htx
      go_wp2_with fail
      go_ret
      refine ⟨⟨_, rfl, ?_⟩, HF.out⟩
      rw [Htx.out]
      simp [prSs]
    | cons e1 rs =>
      simp only [flSs] at hs
      simp only [NSs] at he
      simp only [OkSs] at ho
      simp only [SCs] at hE
      simp only [szSs] at hg hux
      simp only [hdS]
      obtain ⟨sa, sr⟩ := hs.app
      rw [flS_len] at sr
      obtain ⟨z, ez, hz⟩ := rtS_nat u e1
      have cc := fun w' (hn : NT w' b ns) => hE.1 w' b ns r er q u _ hn hl sa he.1 ⟨_, ho.1⟩
      obtain ⟨nd, hnd, hnx⟩ := sa.nxtS hz
      have hzl := hnd.1
      have ln := len_S e1 he.1
      rw [ez] at cc ⊢
      have Hcc : Hid _ := cc
      have Hsr : Hid _ := sr
      have He : Hid _ := he.2
      have Ho : Hid _ := ho.2
      have HE : Hid _ := hE.2
      have Hux : Hid _ := hux
      have Hnd : Hid _ := hnd
      have Hnx : Hid _ := hnx
      have Hz : Hid _ := hz
      have ln2 : Hid ((prS e1).length ≤ 20000) := (show (prS e1).length ≤ 20000 by omega)
      have z1 : decide (pr < (z : Int)) = true := decide_eq_true (by rcases hpr with h | ⟨_, h⟩ <;> (have := szS_pos e1; omega))
      have z2 : decide ((z : Int) < (x : Int)) = true := decide_eq_true (by omega)
      have z2' : decide (z < x) = true := decide_eq_true (by omega)
      have z3 : decide (z < ns.length) = true := decide_eq_true hzl
      have z4 : decide ((z : Int) < (ns.length : Int)) = true := decide_eq_true (by omega)
      have z200 : z < 200 := by omega
      clear hB hF hg hpr hs he ho hE hux hnd hnx hz ln sa sr cc ez htx
      go_wp2_with fail
      refine (Hcc.out _ HB.out.nt).mono ?_
      rintro v w2 ⟨⟨s2, rfl, hs2⟩, f2⟩
      have X2 : Hid _ := HB.out.next f2
      have F2 : Hid _ := HF.out.trans f2 (fun _ _ h => h)
      have bs2 := sz_str hs2 ln2.out
      have Hs2 : Hid _ := hs2
      clear b0 b1 b2 b3 b4 b5 HB HF f2 hs2
      obtain ⟨b0, b1, b2, b3, b4, b5⟩ := X2.out.box
      obtain ⟨n0, n1, n2, n3, n4, n5, n6, n7⟩ := X2.out.nt.node Hnd.out
      rw [Hnx.out] at n4
      go_wp2_with fail
      go_roundg (szSs rs)
      case measure => have h := Hg.out; have := szS_pos e1; simp only [szSs] at h; omega
      case rel => exact ⟨rs, u + szS e1, _, (z : Int), rfl, rfl, rfl, rfl, Hsr.out, He.out, Ho.out, HE.out, by have := Hux.out; omega, .inr ⟨by omega, by have := Hz.out; omega⟩, by rw [Htx.out]; simp [prSs, Hs2.out], X2.out, F2.out⟩
end Go.Proofs.Qxb6500280a
