/- The program's code; main. -/
import Derived.Test.Qxb6500277aGreatGP12
namespace Go.Proofs.Qxb6500277aGreat
open Go Go.RowKit

/-- How long a function's code is. -/
def nF (F : Fi) : Nat := 5 + nSs F.ss + (if 2 ≤ F.ret then 2 else 10)
theorem cF_len (P : Pg) (en : Nat → Nat) (a : Nat) (F : Fi) : (cF P en a F).length = nF F := by
  unfold cF nF tailC
  split <;> simp [cSs_len, i64b] <;> omega
/-- The functions in the order of their code; where each begins. -/
def enO (P : Pg) : List Nat → Nat → Nat → Nat
  | [], _, _ => 0
  | j :: l, a, i => if i = j then a else enO P l (a + nF (fiA P j)) i
def cdL (P : Pg) (en : Nat → Nat) : List Nat → Nat → List Nat
  | [], _ => []
  | j :: l, a => cF P en a (fiA P j) ++ cdL P en l (a + nF (fiA P j))
theorem cdL_at (P : Pg) (en : Nat → Nat) (C : List Nat) : ∀ (l : List Nat) (a i : Nat), i ∈ l → CdA C a (cdL P en l a) → CdA C (enO P l a i) (cF P en (enO P l a i) (fiA P i))
  | [], _, _, h, _ => by cases h
  | j :: l, a, i, h, hc => by
    simp only [cdL] at hc
    obtain ⟨h1, h2⟩ := hc.app
    rw [cF_len] at h2
    simp only [enO]
    by_cases e : i = j
    · rw [if_pos e, e]; exact h1
    · rw [if_neg e]
      exact cdL_at P en C l _ i ((List.mem_cons.1 h).resolve_left e) h2
theorem CdA.whole (C : List Nat) : CdA C 0 C := ⟨by omega, fun i _ => by rw [Nat.zero_add]; rfl⟩
/-- The machine before it runs. -/
def v00 (fuel : Int) : Vs := ⟨[], 0, fuel, 0, [], 0, 0, 0, 0⟩
def s00 (fuel : Int) : Ss := ⟨[], 0, 0, ⟨[], []⟩, fuel, 0, []⟩
/-- How a run ends. -/
def EndX (C : List Nat) (I : List Int) (fuel : Int) (e v : Int) (t : Ss) : Prop := ∃ V M, Rch C I (callV C (v00 fuel) ⟨[], []⟩ 0 0) (V, M) ∧ V.en = e ∧ V.rt = v ∧ V.out = t.out ∧ V.fuel = t.fuel
def ResM (C : List Nat) (I : List Int) (fuel : Int) (r : Ro) : Prop := match r with
  | .ok v t => EndX C I fuel 21 v t
  | .rt _ _ => False
  | .stop e t => e ≠ 0 → EndX C I fuel e 0 t
theorem main_sim {P : Pg} {C : List Nat} {en : Nat → Nat} (hP : PgOk P C en) {mn : Nat} (hm : mn < P.fns.length) (h0 : en mn = 0) (hpi : (fiA P mn).pi = 0) (hpr : (fiA P mn).pr = 0) (hret : (fiA P mn).ret < 2) {n : Nat} {fuel : Int} {r : Ro} (h : runI P n (bodyI P (.inv mn []) (s00 fuel)) = r) : ResM C P.inp fuel r := by
  obtain ⟨q1, q2, q3, _⟩ := hP.fn mn hm
  have hent : CdA C 0 (25 :: (fiA P mn).pi :: (fiA P mn).pr :: (fiA P mn).li :: (fiA P mn).lr :: (cSs P en (en mn + 5) (fiA P mn).bb (fiA P mn).ss ++ tailC (fiA P mn).ret)) := by rw [← h0]; exact q3
  obtain ⟨a0, al, a⟩ := hent.hd
  obtain ⟨a1, _, a⟩ := a.hd
  obtain ⟨a2, _, a⟩ := a.hd
  obtain ⟨a3, _, a⟩ := a.hd
  obtain ⟨a4, _, a⟩ := a.hd
  simp only [List.length_cons] at al
  simp only [Nat.zero_add, Nat.reduceAdd] at a1 a2 a3 a4
  rw [hpi] at a1
  rw [hpr] at a2
  have hcv : callV C (v00 fuel) ⟨[], []⟩ 0 0 = enterV (v00 fuel) ⟨[], []⟩ 0 0 0 (fiA P mn).li (fiA P mn).lr 0 := by
    unfold callV
    simp only [Nat.zero_add]
    rw [a0, a1, a2, a3, a4, if_neg (by omega), if_neg (by omega), if_neg (by simp [v00])]
  have hfu : (v00 fuel).fuel = fuel := rfl
  have hsu : (s00 fuel).fuel = fuel := rfl
  simp only [bodyI] at h
  rw [hsu, hpi, hpr] at h
  by_cases f0 : fuel ≤ 0
  · rw [if_pos f0] at h
    rw [runI_ret h]
    intro _
    refine ⟨(v00 fuel).die 22, ⟨[], []⟩, ⟨0, ?_, fun j hj => by omega⟩, rfl, rfl, rfl, rfl⟩
    show callV C (v00 fuel) ⟨[], []⟩ 0 0 = ((v00 fuel).die 22, ⟨[], []⟩)
    rw [hcv]
    unfold enterV
    rw [hfu, if_pos f0]
  rw [if_neg f0] at h
  by_cases f1 : 48 < (s00 fuel).us - ((0 : Nat) : Int) + 3 + (fiA P mn).li ∨ (24 : Int) < ((s00 fuel).M.rt.length : Int) + (fiA P mn).lr - ((0 : Nat) : Int)
  · rw [if_pos f1] at h
    rw [runI_ret h]
    intro _
    simp only [s00, List.length_nil] at f1
    refine ⟨{ v00 fuel with fuel := fuel - 1 }.die 29, ⟨[], []⟩, ⟨0, ?_, fun j hj => by omega⟩, rfl, rfl, rfl, rfl⟩
    show callV C (v00 fuel) ⟨[], []⟩ 0 0 = ({ v00 fuel with fuel := fuel - 1 }.die 29, ⟨[], []⟩)
    rw [hcv]
    unfold enterV
    rw [hfu, if_neg f0, if_pos (by simp only [v00, usedF, List.length_nil]; omega)]
  rw [if_neg f1] at h
  simp only [s00, List.length_nil] at f1
  have hnl := nils_len (fiA P mn).lr (⟨[], []⟩ : MS) (by simp only [List.length_nil]; omega)
  simp only [List.length_nil, Nat.zero_add] at hnl
  obtain ⟨g, hg⟩ : ∃ g : Fm, g = ⟨0, List.replicate (fiA P mn).li 0, [], 0, (fiA P mn).lr⟩ := ⟨_, rfl⟩
  obtain ⟨s1, hs1⟩ : ∃ s1 : Ss, s1 = ⟨List.replicate (fiA P mn).li 0, 0, 3 + (fiA P mn).li, nilsM (fiA P mn).lr ⟨[], []⟩, fuel - 1, 0, []⟩ := ⟨_, rfl⟩
  have hst : callV C (v00 fuel) ⟨[], []⟩ 0 0 = (vm [g] (en mn + 5) s1 (0, max 0 ((fiA P mn).li + 3)), s1.M) := by
    rw [hcv]
    unfold enterV
    rw [hfu, if_neg f0, if_neg (by simp only [v00, usedF, List.length_nil]; omega), hg, hs1, h0]
    simp [v00, vm, newF, topO, dropO, setO, usedF]
  have hA : AtS g [] s1 0 := by
    rw [hg, hs1]
    refine ⟨rfl, rfl, ?_, ?_, ?_⟩
    · simp only [usedF, List.length_replicate, List.length_nil]; omega
    · simp only []; omega
    · simp only []; omega
  have hreq : ({ s00 fuel with loc := [] ++ List.replicate ((fiA P mn).li - ([] : List Int).length) 0, rb := (s00 fuel).M.rt.length - 0, us := (s00 fuel).us + (3 + ((fiA P mn).li : Int) - ((0 : Nat) : Int)), M := nilsM ((fiA P mn).lr - 0) (s00 fuel).M, fuel := fuel - 1 } : Ss) = s1 := by
    rw [hs1]
    simp [s00]
  rw [hreq] at h
  have hll : g.loc.length = (fiA P mn).li := by rw [hg]; simp
  rcases runI_call h with ⟨t, rfl⟩ | ⟨m, rfl, ⟨v, t, h2, h3⟩ | ⟨v, t, h2, rfl⟩ | ⟨e0, t, h2, rfl⟩⟩
  · exact fun h => absurd rfl h
  · obtain ⟨f', pc', hR, hT⟩ := simulate hP m _ _ _ h2 g [] hA (by rw [hg]) hll (by rw [hg]) hm
    obtain ⟨x', hT⟩ := hT (0, max 0 ((fiA P mn).li + 3))
    rw [if_neg (by omega)] at h3
    rw [runI_ret h3]
    have hop : byteAt C pc' = 26 ∧ pc' + 1 ≤ C.length := by have := hR.op; unfold clsO at this; rw [if_neg (by omega)] at this; exact this
    have hops := hR.ops
    rw [pd_i hret] at hops
    have hk := hR.ats.kR
    obtain ⟨V, M, e1, e2⟩ := i_end (C := C) (I := P.inp) (s := t) (f := f') hop hops (by rw [hk]; omega) x'
    refine ⟨V, M, ?_, e2⟩
    rw [hst]
    exact hT.trans (Rch.one rfl e1)
  · exact (simulate hP m _ _ _ h2 g [] hA (by rw [hg]) hll (by rw [hg]) hm).elim
  · intro hne
    obtain ⟨V, M, e1, e2⟩ := simulate hP m _ _ _ h2 g [] hA (by rw [hg]) hll (by rw [hg]) hm hne (0, max 0 ((fiA P mn).li + 3))
    rw [← hst] at e1
    exact ⟨V, M, e1, e2⟩
mutual
theorem nE_le : (e : Exp) → nE e ≤ 15 * szE e
  | .num .. | .boo .. | .var .. | .rd .. => by simp [nE, szE]
  | .un _ _ e => by have := nE_le e; simp only [nE, szE]; omega
  | .new _ _ e => by have := nE_le e; simp only [nE, szE]; omega
  | .len _ e => by have := nE_le e; simp only [nE, szE]; omega
  | .bin k _ l r => by have := nE_le l; have := nE_le r; simp only [nE, szE]; split <;> omega
  | .idx _ a i => by have := nE_le a; have := nE_le i; simp only [nE, szE]; omega
  | .call _ _ gs => by have := nEs_le gs; simp only [nE, szE]; omega
theorem nEs_le : (es : Exps) → nEs es ≤ 15 * szEs es
  | .nil => by simp [nEs]
  | .cons e es => by have := nE_le e; have := nEs_le es; simp only [nEs, szEs]; omega
end
mutual
theorem nS_le : (x : Stm) → nS x ≤ 15 * szS x
  | .vd _ _ _ e => by have := nE_le e; simp only [nS, szS]; omega
  | .asg _ a c => by
    have h1 := nE_le c
    have h2 := nE_le a
    cases a <;> simp only [nS, szS, nE, szE] at * <;> omega
  | .iff _ e _ b => by have := nE_le e; have := nSs_le b; simp only [nS, szS]; omega
  | .ife _ e _ b _ c => by have := nE_le e; have := nSs_le b; have := nSs_le c; simp only [nS, szS]; omega
  | .whl _ e _ b => by have := nE_le e; have := nSs_le b; simp only [nS, szS]; omega
  | .ret _ e => by have := nE_le e; simp only [nS, szS]; omega
  | .prt _ e => by have := nE_le e; simp only [nS, szS]; omega
  | .exp e => by have := nE_le e; simp only [nS, szS]; omega
theorem nSs_le : (xs : Stms) → nSs xs ≤ 15 * szSs xs
  | .nil => by simp [nSs]
  | .cons x xs => by have := nS_le x; have := nSs_le xs; simp only [nSs, szSs]; omega
end
theorem nF_le (F : Fi) : nF F ≤ 15 * (szSs F.ss + 1) := by have := nSs_le F.ss; unfold nF; split <;> omega
end Go.Proofs.Qxb6500277aGreat
