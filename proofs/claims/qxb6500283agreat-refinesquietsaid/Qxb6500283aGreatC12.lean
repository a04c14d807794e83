/- The model's alt. -/
import Derived.Test.Qxb6500283aGreatC11
import Derived.Test.Qxb6500283aGreatC8
namespace Go.Proofs.Qxb6500283aGreat
open Go Go.RowKit

theorem MErr.cells {w : World} {r : Nat} {p : ByteArray} {e : Er} {B : Nat} (h : MErr w r p e B) : w.cell? ⟨r, 4, none⟩ = some (.int .i64 e.1) ∧ (e.1 == 0) = false ∧ r < w.heap.size := by
  obtain ⟨g, nv, G, iv, hb, hL, hiv, he⟩ := h
  exact ⟨by rw [hb.cell (by omega), hL.e4], by simpa using he, hb.lt⟩
set_option maxRecDepth 100000 in
set_option maxHeartbeats 16000000 in
theorem altM_any {w : World} {r : Nat} {p : ByteArray} {s : Sg} {d B : Nat} {A : Sg → Res → Prop} (hB : 210 ≤ B) (hM : MMem w r p s) (hS : SgOk p s) (hsz : p.size ≤ 129) (hAok : AltOk p A) (hAG : AltG A) (hAI : AltI A)
    (hCat : ∀ w' s', MMem w' r p s' → SgOk p s' → Calls Tryz.prog 99 #[.pointer (some ⟨r, 0, none⟩), .int .i64 (d : Nat)] w' fun v w'' => ∃ res, CatL p d A none s' res ∧ MPost w' r p res B v w'') :
    Calls Tryz.prog 78 #[.pointer (some ⟨r, 0, none⟩), .int .i64 (d : Nat)] w fun v w' => ∃ res, AltR p d A s res ∧ MPost w r p res B v w' := by
  go_enter Tryz.func78, Tryz.ntmps78
  go_wp2_with fail
  refine (hCat _ s hM hS).mono ?_
  rintro v w1 ⟨res1, hc1, hP⟩
  have hok := CatL.fine hAok hAG hc1 hS (fun k e => by cases e)
  have HC1 : Hid _ := hc1
  have HP : Hid _ := hP
  obtain ⟨u1, rfl⟩ := hP.int
  clear hP hc1
  go_wp2_with fail
  go_loopg [5] p.size (fun gk xv wr => (∃ (l : Nat) (s1 : Sg), xv = .int .i64 (l : Nat) ∧ MMem wr r p s1 ∧ SgOk p s1 ∧ l < s1.ns.length ∧ (∀ res, AltL p d A l s1 res → AltR p d A s res) ∧ p.size ≤ s1.i + gk ∧ Fr (fun b => r ≤ b) w wr) ∨ (∃ (e : Er) (u : Int), xv = .int .i64 u ∧ MErr wr r p e B ∧ AltR p d A s (.error e) ∧ Fr (fun b => r ≤ b) w wr))
  case atStart =>
    obtain ⟨f1, hP⟩ := HP.out
    cases res1 with
    | error e =>
      obtain ⟨_, hE⟩ := hP
      exact .inr ⟨e, u1, rfl, hE, AltR.err HC1.out, f1⟩
    | ok v =>
      obtain ⟨x, s1⟩ := v
      obtain ⟨he, hM1⟩ := hP
      injection he with he
      obtain ⟨hS1, hx1⟩ := hok
      exact .inl ⟨x, s1, he, hM1, hS1, by omega, fun res h => AltR.ok HC1.out h, by omega, f1⟩
  case round =>
    clear hok HC1 HP
    rcases hrel with ⟨l, s1, rfl, hM1, hS1, hl1, hcont, hig, FJ⟩ | ⟨e, u, rfl, hE, hR, FJ⟩
    · have hig' : p.size ≤ s1.i + gk := hig
      clear hig
      have Hc : Hid _ := hcont
      clear hcont
      obtain ⟨d0, d1, d4, z1, l1⟩ := hM1.cells
      have hM1' := hM1
      obtain ⟨g1, nv1, q1, hb1, hL1, hN1, hnr1⟩ := hM1'
      have hi1 := hS1.i
      have hi1b : (s1.i : Int) ≤ 129 := by omega
      go_wp2_with fail
      refine (isM_any hb1 hL1.p0 hL1.i1 124).mono ?_
      rintro e w3 ⟨rfl, hb3, f3⟩
      have hM3 := hM1.frame f3
      have F3 := FJ.trans f3 (fun _ _ h => h.elim)
      clear d0 d1 d4 z1 l1
      obtain ⟨d0, d1, d4, z1, l1⟩ := hM3.cells
      cases hz : isB p s1.i 124 with
      | false =>
        have HZ : Hid _ := hz
        clear hz
        go_wp2_with fail
        go_ret
        exact ⟨.ok (l, s1), Hc.out _ (AltL.stop HZ.out), F3, rfl, hM3⟩
      | true =>
        have hlt1 := (isB_lt hz).1
        have HZ : Hid _ := hz
        clear hz
        have hM4 := hM3.setI (s1.i + 1)
        have F4 := F3.setC r 1 (.int .i64 ((s1.i + 1 : Nat) : Int)) (fun _ => Nat.le_refl _)
        have hS4 : SgOk p ⟨s1.i + 1, s1.ns, s1.g⟩ := ⟨hS1.wf, hS1.len, hS1.g, hlt1⟩
        go_wp2_with fail
        refine (hCat _ _ hM4 hS4).mono ?_
        rintro v w5 ⟨res, hc, hP⟩
        have hok := CatL.fine hAok hAG hc hS4 (fun k e => by cases e)
        have hgr := CatL.grow hAG hc
        have hge := CatL.ge hAI hc
        have HC : Hid _ := hc
        clear hc d0 d1 d4 z1 l1
        cases res with
        | error e =>
          obtain ⟨f5, ⟨u, rfl⟩, hE⟩ := hP
          have F5 := F4.trans f5 (fun _ _ h => h)
          go_wp2_with fail
          refine (addM_err _ _ _ _ _ _ _ _ _ _ _ _ rfl hE).mono ?_
          rintro v w6 ⟨f6, ⟨u6, rfl⟩, hE6⟩
          go_wp2_with fail
          go_roundg 0
          case measure => omega
          case rel => exact .inr ⟨e, u6, rfl, hE6, Hc.out _ (AltL.err HZ.out HC.out), F5.trans f6 (fun _ _ h => h)⟩
        | ok xs =>
          obtain ⟨x, s2⟩ := xs
          obtain ⟨f5, rfl, hM5⟩ := hP
          obtain ⟨hS5, hx5⟩ := hok
          have hge5 := hge _ _ rfl
          have hgl := hgr.len rfl
          simp only at hge5 hgl
          clear hge hgr
          have F5 := F4.trans f5 (fun _ _ h => h)
          have hi5 := hS5.i
          go_wp2_with fail
          rw [← ndV_alt]
          refine (addM_any (altNd l x) hM5 hS5.len B (by omega)).mono ?_
          intro v w6 hP6
          have hok6 := addS_ok (n := altNd l x) hS5 (okNd.alt (by omega) (by omega))
          cases hadd : addS s2 (altNd l x) with
          | error e =>
            rw [hadd] at hP6
            obtain ⟨f6, ⟨u6, rfl⟩, hE6⟩ := hP6
            have HA : Hid _ := hadd
            clear hadd
            go_wp2_with fail
            go_roundg 0
            case measure => omega
            case rel => exact .inr ⟨e, u6, rfl, hE6, Hc.out _ (AltL.big HZ.out HC.out HA.out), F5.trans f6 (fun _ _ h => h)⟩
          | ok yv =>
            obtain ⟨y, s3⟩ := yv
            rw [hadd] at hP6 hok6
            obtain ⟨f6, rfl, hM6⟩ := hP6
            obtain ⟨hS6, hy6⟩ := hok6
            have hi6 := (addS_grow hadd).1
            have HA : Hid _ := hadd
            clear hadd
            go_wp2_with fail
            go_roundg (p.size - s3.i)
            case measure => omega
            case rel => exact .inl ⟨y, s3, rfl, hM6, hS6, by omega, fun res h => Hc.out _ (AltL.more HZ.out HC.out HA.out h), by omega, F5.trans f6 (fun _ _ h => h)⟩
    · have HR : Hid _ := hR
      clear hR
      obtain ⟨c4, te, lE⟩ := hE.cells
      go_wp2_with fail
      go_ret
      exact ⟨.error e, HR.out, FJ, ⟨_, rfl⟩, hE⟩
/-- All of the descent. -/
theorem descent {r : Nat} {p : ByteArray} (hsz : p.size ≤ 129) : ∀ k, k ≤ 5 → ∀ w s, MMem w r p s → SgOk p s → Calls Tryz.prog 78 #[.pointer (some ⟨r, 0, none⟩), .int .i64 ((5 - k : Nat) : Int)] w fun v w' => ∃ res, AltD p k s res ∧ MPost w r p res (211 + k) v w' := by
  intro k
  induction k with
  | zero =>
    intro _ w s hM hS
    have hok : AltOk p (fun _ _ => False) := fun _ _ h => h.elim
    have hG : AltG (fun _ _ => False) := fun _ _ h => h.elim
    have hI : AltI (fun _ _ => False) := fun _ _ _ h => h.elim
    refine altM_any (d := 5) (A := fun _ _ => False) (by omega) hM hS hsz hok hG hI fun w1 s1 hM1 hS1 => ?_
    refine catM_any (d := 5) (A := fun _ _ => False) (by omega) hM1 hS1 hsz hok hG hI fun w2 s2 hM2 hS2 hi2 => ?_
    refine repM_any (d := 5) (A := fun _ _ => False) (by omega) hS2 hsz hi2 hok ?_
    refine atomM_any (d := 5) (A := fun _ _ => False) (by omega) hM2 hS2 hsz hi2 fun w3 hM3 => ?_
    exact groupM_any (d := 5) (B := 210) (A := fun _ _ => False) (by omega) (by omega) (by omega) hM3 hS2 hsz hi2 hok (fun h => absurd h (by omega))
  | succ k ih =>
    intro hk w s hM hS
    have hok := AltD.fine p k
    have hG := AltD.grow p k
    have hI := AltD.ge p k
    refine altM_any (d := 5 - (k + 1)) (A := AltD p k) (by omega) hM hS hsz hok hG hI fun w1 s1 hM1 hS1 => ?_
    refine catM_any (d := 5 - (k + 1)) (A := AltD p k) (by omega) hM1 hS1 hsz hok hG hI fun w2 s2 hM2 hS2 hi2 => ?_
    refine repM_any (d := 5 - (k + 1)) (A := AltD p k) (by omega) hS2 hsz hi2 hok ?_
    refine atomM_any (d := 5 - (k + 1)) (A := AltD p k) (by omega) hM2 hS2 hsz hi2 fun w3 hM3 => ?_
    refine groupM_any (d := 5 - (k + 1)) (B := 211 + k) (A := AltD p k) (by omega) (by omega) (by omega) hM3 hS2 hsz hi2 hok fun hd w4 s4 hM4 hS4 => ?_
    have := ih (by omega) w4 s4 hM4 hS4
    rw [show ((5 - k : Nat) : Int) = ((5 - (k + 1) : Nat) : Int) + 1 by omega] at this
    exact this
end Go.Proofs.Qxb6500283aGreat
