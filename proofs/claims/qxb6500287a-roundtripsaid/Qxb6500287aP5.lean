/- put, whole; the print's bytes and length. -/
import Derived.Test.Qxb6500287aP4a
import Derived.Test.Qxb6500287aP4b
import Derived.Test.Qxb6500287aP4c
import Derived.Test.Qxb6500287aP4d
import Derived.Test.Qxb6500287aP4e
import Derived.Test.Qxb6500287aP4f
import Derived.Test.Qxb6500287aP4g
import Derived.Test.Qxb6500287aP4h
import Derived.Test.Qxb6500287aP4i
import Derived.Test.Qxb6500287aP4j
import Derived.Test.Qxb6500287aP4k
import Derived.Test.Qxb6500287aR4
namespace Go.Proofs.Qxb6500287a
open Go Go.RowKit

theorem put_any {ns : List Nd} (hwf : WF ns) (hrb : ∀ k (h : k < ns.length), RB ns[k]) (h24 : ns.length ≤ 24) : ∀ x, x < ns.length → PutC ns x := by
  intro x
  induction x using Nat.strongRecOn with
  | ind x ih =>
    intro hx
    have hok := hwf x hx
    have hr := hrb x hx
    obtain ⟨⟨kind, a, b, mn, mx, cp, lz, st⟩, hnd⟩ : ∃ nd, ns[x] = nd := ⟨_, rfl⟩
    rw [hnd] at hok hr
    unfold okNd at hok
    unfold RB at hr
    simp only at hok hr
    rcases hok with ⟨hk, rfl, rfl⟩ | ⟨hk, h1, h2, h3, h4⟩ | ⟨hk, h1, h2, rfl⟩
    · rcases hk with rfl | rfl | rfl | rfl
      · exact put_leaf0 hwf h24 hx hnd
      · exact put_leaf1 hwf h24 hx hnd
      · exact put_leaf2 hwf h24 hx hnd
      · exact put_leaf3 hwf h24 hx hnd
    · obtain ⟨na, rfl⟩ : ∃ na : Nat, a = na := ⟨a.toNat, by omega⟩
      obtain ⟨nb, rfl⟩ : ∃ nb : Nat, b = nb := ⟨b.toNat, by omega⟩
      rcases hk with rfl | rfl
      · exact put_two4 hwf h24 hx hnd (by omega) (by omega) ih
      · exact put_two5 hwf h24 hx hnd (by omega) (by omega) ih
    · obtain ⟨na, rfl⟩ : ∃ na : Nat, a = na := ⟨a.toNat, by omega⟩
      rcases hk with rfl | rfl
      · obtain ⟨r1, r2, r3, r4⟩ := hr rfl
        obtain ⟨m, rfl⟩ : ∃ m : Nat, mn = m := ⟨mn.toNat, by omega⟩
        by_cases hm : 0 ≤ mx
        · obtain ⟨u, rfl⟩ : ∃ u : Nat, mx = u := ⟨mx.toNat, by omega⟩
          cases lz with
          | true => exact put_repml0 hwf h24 hx hnd (by omega) (by omega) (by omega) ih
          | false => exact put_repm0 hwf h24 hx hnd (by omega) (by omega) (by omega) ih
        · obtain rfl : mx = -1 := by omega
          cases lz with
          | true => exact put_repl0 hwf h24 hx hnd (by omega) (by omega) ih
          | false => exact put_rep0 hwf h24 hx hnd (by omega) (by omega) ih
      · exact put_grp hwf h24 hx hnd (by omega) ih
/-! Repeats' bounds. -/
def AllB (ns : List Nd) : Prop := ∀ n ∈ ns, RB n
def AltB (A : Sg → Res → Prop) : Prop := ∀ s x s', A s (.ok (x, s')) → AllB s.ns → AllB s'.ns
theorem addS_B {s s' : Sg} {n : Nd} {y : Nat} (h : addS s n = .ok (y, s')) (hs : AllB s.ns) (hn : RB n) : AllB s'.ns := by
  rw [(addS_grow h).2.2.1]
  intro m hm
  rcases List.mem_append.1 hm with h1 | h1
  · exact hs m h1
  · rw [List.mem_singleton.1 h1]; exact hn
theorem RB.of {n : Nd} (h : n.kind ≠ 6) : RB n := fun e => absurd e h
theorem GroupR.rb {p : ByteArray} {d : Nat} {A : Sg → Res → Prop} (hA : AltB A) {s : Sg} {r : Res} (h : GroupR p d A s r) : ∀ x s', r = .ok (x, s') → AllB s.ns → AllB s'.ns := by
  intro x s' e hs
  cases h with
  | deep => cases e
  | many => cases e
  | err => cases e
  | open_ => cases e
  | shut _ ho ha _ =>
    have h1 := openS_ns ho
    have h2 := hA _ _ _ ha (by rw [h1]; exact hs)
    unfold shutS at e
    split at e
    · cases e; exact h2
    · exact addS_B e h2 (RB.of (by simp [grpNd]))
theorem AtomR.rb {p : ByteArray} {d : Nat} {A : Sg → Res → Prop} (hA : AltB A) {s : Sg} {r : Res} (h : AtomR p d A s r) : ∀ x s', r = .ok (x, s') → AllB s.ns → AllB s'.ns := by
  intro x s' e hs
  cases h with
  | group _ hg => exact hg.rb hA _ _ e hs
  | sign => cases e
  | leafE => cases e
  | leaf _ _ hl =>
    refine addS_B e hs (RB.of ?_)
    cases hl <;> simp [leafNd]
theorem RepL.rb {p : ByteArray} {x : Nat} {s : Sg} {r : Res} (h : RepL p x s r) : ∀ y s', r = .ok (y, s') → AllB s.ns → AllB s'.ns := by
  induction h with
  | done => intro y s' e hs; cases e; exact hs
  | bad => intro y s' e; cases e
  | loop => intro y s' e; cases e
  | big => intro y s' e; cases e
  | more hi _ hc _ ha _ ih =>
    intro y s' e hs
    have h1 := count_le hi hc
    have h2 := count_hi hc
    exact ih _ _ e (addS_B ha hs (fun _ => ⟨h1.2.2.1, h1.2.2.2.1, h2.1, h1.2.2.2.2⟩))
theorem RepR.rb {p : ByteArray} {d : Nat} {A : Sg → Res → Prop} (hA : AltB A) {s : Sg} {r : Res} (h : RepR p d A s r) : ∀ x s', r = .ok (x, s') → AllB s.ns → AllB s'.ns := by
  intro x s' e hs
  cases h with
  | err => cases e
  | ok ha hl => exact hl.rb _ _ e (ha.rb hA _ _ rfl hs)
theorem CatL.rb {p : ByteArray} {d : Nat} {A : Sg → Res → Prop} (hA : AltB A) {l : Option Nat} {s : Sg} {r : Res} (h : CatL p d A l s r) : ∀ x s', r = .ok (x, s') → AllB s.ns → AllB s'.ns := by
  induction h with
  | stop => intro y s' e hs; cases e; exact hs
  | empty => intro y s' e hs; exact addS_B e hs (RB.of (by simp [leafNd]))
  | err => intro y s' e; cases e
  | big => intro y s' e; cases e
  | more _ hr hj _ ih =>
    intro y s' e hs
    have h1 := hr.rb hA _ _ rfl hs
    refine ih _ _ e ?_
    unfold joinN at hj
    split at hj
    · cases hj; exact h1
    · exact addS_B hj h1 (RB.of (by simp [catNd]))
theorem AltL.rb {p : ByteArray} {d : Nat} {A : Sg → Res → Prop} (hA : AltB A) {l : Nat} {s : Sg} {r : Res} (h : AltL p d A l s r) : ∀ x s', r = .ok (x, s') → AllB s.ns → AllB s'.ns := by
  induction h with
  | stop => intro y s' e hs; cases e; exact hs
  | err => intro y s' e; cases e
  | big => intro y s' e; cases e
  | more _ hc ha _ ih =>
    intro y s' e hs
    exact ih _ _ e (addS_B ha (hc.rb hA _ _ rfl hs) (RB.of (by simp [altNd])))
theorem AltR.rb {p : ByteArray} {d : Nat} {A : Sg → Res → Prop} (hA : AltB A) : AltB (AltR p d A) := by
  intro s x s' h hs
  cases h with
  | ok hc hl => exact hl.rb hA _ _ rfl (hc.rb hA _ _ rfl hs)
theorem AltD.rb (p : ByteArray) : ∀ k, AltB (AltD p k)
  | 0 => AltR.rb (fun _ _ _ h => h.elim)
  | k + 1 => AltR.rb (AltD.rb p k)
theorem ModelR.rb {p : ByteArray} {ns : List Nd} {x g : Nat} (h : ModelR p (.ok (ns, x, g))) : ∀ k (h : k < ns.length), RB ns[k] := by
  cases h with
  | ok ha _ =>
    have h1 := AltD.rb p 5 _ _ _ ha (fun n hn => by cases hn)
    exact fun k hk => h1 _ (List.getElem_mem hk)
/-! The print's bytes. -/
theorem hexC_lt {v : Nat} (h : v < 16) : hexC v < 256 := by unfold hexC; split <;> omega
theorem byteT_lt {c b : Nat} (hc : c < 256) (h : b ∈ byteT c) : b < 256 := by
  have h1 := hexC_lt (v := c / 16) (by omega)
  have h2 := hexC_lt (v := c % 16) (by omega)
  simp only [byteT, List.mem_cons, List.not_mem_nil, or_false] at h
  rcases h with rfl | rfl | rfl | rfl <;> omega
theorem runsT_lt (P : BSet) : ∀ f c b, b ∈ runsT P f c → b < 256
  | 0, _, b, h => by simp [runsT] at h
  | f + 1, c, b, h => by
    unfold runsT at h
    split at h
    · rename_i hc
      split at h
      · have hf := runEnd_facts P (255 - c) c (by omega)
        rcases List.mem_append.1 h with h1 | h1
        · unfold runT at h1
          rcases List.mem_append.1 h1 with h2 | h2
          · exact byteT_lt hc h2
          · split at h2
            · rcases List.mem_cons.1 h2 with h3 | h3
              · omega
              · exact byteT_lt (by omega) h3
            · cases h2
        · exact runsT_lt P f _ b h1
      · exact runsT_lt P f _ b h
    · cases h
theorem setT_lt (P : BSet) (b : Nat) (h : b ∈ setT P) : b < 256 := by
  unfold setT at h
  rcases List.mem_cons.1 h with h | h
  · omega
  · rcases List.mem_append.1 h with h | h
    · exact runsT_lt P _ _ b h
    · rw [List.mem_singleton.1 h]; omega
theorem repT_lt {mn mx : Int} {lz : Bool} (h1 : mn ≤ 3) (h2 : mx ≤ 3) (b : Nat) (h : b ∈ repT mn mx lz) : b < 256 := by
  unfold repT at h
  simp only [List.mem_append, List.mem_cons, List.not_mem_nil, or_false] at h
  rcases h with ((h | h) | h) | h
  · omega
  · split at h
    · simp at h; omega
    · cases h
  · omega
  · split at h
    · simp at h; omega
    · cases h
theorem wrapT_lt {w : Bool} {l : List Nat} (hl : ∀ b ∈ l, b < 256) (b : Nat) (h : b ∈ wrapT w l) : b < 256 := by
  unfold wrapT at h
  split at h
  · simp only [List.mem_append, List.mem_cons, List.not_mem_nil, or_false] at h
    rcases h with (h | h) | h
    · omega
    · exact hl b h
    · omega
  · exact hl b h
theorem pr_lt {ns : List Nd} (hwf : WF ns) (hrb : ∀ k (h : k < ns.length), RB ns[k]) : ∀ x, x < ns.length → ∀ pl b, b ∈ pr ns x pl → b < 256 := by
  intro x
  induction x using Nat.strongRecOn with
  | ind x ih =>
    intro hx pl b hb
    rw [pr_eq hwf hx] at hb
    refine wrapT_lt (fun c hc => ?_) b hb
    have hok := hwf x hx
    have hr := hrb x hx
    unfold bodyT at hc
    rcases hok with ⟨hk, _, _⟩ | ⟨hk, h1, h2, h3, h4⟩ | ⟨hk, h1, h2, _⟩
    · rcases hk with hk | hk | hk | hk <;> simp [hk] at hc
      · exact setT_lt _ c hc
      · omega
      · omega
    · rcases hk with hk | hk <;> simp [hk] at hc
      · rcases hc with hc | hc
        · exact ih _ (by omega) (by omega) _ c hc
        · exact ih _ (by omega) (by omega) _ c hc
      · rcases hc with hc | hc | hc
        · exact ih _ (by omega) (by omega) _ c hc
        · omega
        · exact ih _ (by omega) (by omega) _ c hc
    · rcases hk with hk | hk <;> simp [hk] at hc
      · rcases hc with hc | hc
        · exact ih _ (by omega) (by omega) _ c hc
        · obtain ⟨_, r2, _, r4⟩ := hr hk
          exact repT_lt r2 r4 c hc
      · rcases hc with hc | hc | hc
        · omega
        · exact ih _ (by omega) (by omega) _ c hc
        · omega
/-! Its length. -/
theorem wrapT_len (b : Bool) (l : List Nat) : (wrapT b l).length ≤ l.length + 4 := by
  unfold wrapT; split <;> simp
theorem repT_len (mn mx : Int) (lz : Bool) : (repT mn mx lz).length ≤ 6 := by
  unfold repT; split <;> split <;> simp
theorem setT_len (P : BSet) : (setT P).length ≤ 2306 := by
  have := runsT_len P 256 0
  simp [setT]; omega
theorem pow_mono {a x : Nat} (h : a < x) : 2 ^ a * 2 ≤ 2 ^ x := by
  have := Nat.pow_le_pow_right (n := 2) (by omega) (show a + 1 ≤ x by omega)
  rw [Nat.pow_succ] at this
  exact this
theorem pr_len {ns : List Nd} (hwf : WF ns) : ∀ x, x < ns.length → ∀ pl, (pr ns x pl).length + 12 ≤ 2 ^ x * 2400 := by
  intro x
  induction x using Nat.strongRecOn with
  | ind x ih =>
    intro hx pl
    rw [pr_eq hwf hx]
    have hw := wrapT_len (wantsB ns[x].kind pl) (bodyT (pr ns) ns[x])
    have hok := hwf x hx
    have hp : 1 ≤ 2 ^ x := Nat.one_le_two_pow
    have hb : (bodyT (pr ns) ns[x]).length + 16 ≤ 2 ^ x * 2400 := by
      unfold bodyT
      rcases hok with ⟨hk, _, _⟩ | ⟨hk, h1, h2, h3, h4⟩ | ⟨hk, h1, h2, _⟩
      · rcases hk with hk | hk | hk | hk <;> simp [hk]
        · omega
        · have := setT_len ns[x].st; omega
        · omega
        · omega
      · have ha := pow_mono (show ns[x].a.toNat < x by omega)
        have hb := pow_mono (show ns[x].b.toNat < x by omega)
        rcases hk with hk | hk <;> simp [hk]
        · have i1 := ih ns[x].a.toNat (by omega) (by omega) 2
          have i2 := ih ns[x].b.toNat (by omega) (by omega) 3
          omega
        · have i1 := ih ns[x].a.toNat (by omega) (by omega) 0
          have i2 := ih ns[x].b.toNat (by omega) (by omega) 1
          omega
      · have ha := pow_mono (show ns[x].a.toNat < x by omega)
        rcases hk with hk | hk <;> simp [hk]
        · have i1 := ih ns[x].a.toNat (by omega) (by omega) 4
          have := repT_len ns[x].mn ns[x].mx ns[x].lz
          omega
        · have i1 := ih ns[x].a.toNat (by omega) (by omega) 0
          omega
    omega
theorem pr_bound {ns : List Nd} (hwf : WF ns) (h24 : ns.length ≤ 24) {x : Nat} (hx : x < ns.length) (pl : Nat) : (pr ns x pl).length ≤ 549755813888 := by
  have h1 := pr_len hwf x hx pl
  have h2 := Nat.pow_le_pow_right (n := 2) (by omega) (show x ≤ 23 by omega)
  have h3 : (2 : Nat) ^ 23 = 8388608 := by decide
  omega
end Go.Proofs.Qxb6500287a
