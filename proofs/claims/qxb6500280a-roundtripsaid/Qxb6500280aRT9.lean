/- The round trip, plain: a text that is read is printed, and the print is read as the same nodes but for the places. -/
import Derived.Test.Qxb6500280aRT8
import Derived.Test.Qxb6500280aPW19
namespace Go.Proofs.Qxb6500280a
open Go Go.RowKit

mutual
theorem ne_E : (e : Exp) → (b : Nat) → (nx : Int) → (∀ nd ∈ flE b nx e, NW nd) → NE e
  | .num v p, b, nx, h => by simp only [NE]; exact (h ⟨10, -1, -1, -1, nx, v, p, ⟨#[]⟩⟩ (by simp [flE])).2 rfl
  | .boo .., _, _, _ | .rd .., _, _, _ => by simp only [NE]
  | .var s p, b, nx, h => by simp only [NE]; exact (h ⟨12, -1, -1, -1, nx, 0, p, s⟩ (by simp [flE])).1 (by simp)
  | .call s p gs, b, nx, h => by
    simp only [NE]
    simp only [flE] at h
    exact ⟨(h ⟨13, hdE b gs, -1, -1, nx, 0, p, s⟩ (by simp)).1 (by simp), ne_Es gs b fun nd hn => h nd (by simp [hn])⟩
  | .idx p x y, b, nx, h => by
    simp only [NE]
    simp only [flE] at h
    exact ⟨ne_E x b (-1) fun nd hn => h nd (by simp [hn]), ne_E y (b + szE x) (-1) fun nd hn => h nd (by simp [hn])⟩
  | .new t p e, b, nx, h => by
    simp only [NE]
    simp only [flE] at h
    exact ne_E e b (-1) fun nd hn => h nd (by simp [hn])
  | .len p e, b, nx, h => by
    simp only [NE]
    simp only [flE] at h
    exact ne_E e b (-1) fun nd hn => h nd (by simp [hn])
  | .un k p e, b, nx, h => by
    simp only [NE]
    simp only [flE] at h
    exact ne_E e b (-1) fun nd hn => h nd (by simp [hn])
  | .bin k p l r, b, nx, h => by
    simp only [NE]
    simp only [flE] at h
    exact ⟨ne_E l b (-1) fun nd hn => h nd (by simp [hn]), ne_E r (b + szE l) (-1) fun nd hn => h nd (by simp [hn])⟩
theorem ne_Es : (es : Exps) → (b : Nat) → (∀ nd ∈ flEs b es, NW nd) → NEs es
  | .nil, _, _ => by simp only [NEs]
  | .cons e es, b, h => by
    simp only [NEs]
    simp only [flEs] at h
    exact ⟨ne_E e b (hdE (b + szE e) es) fun nd hn => h nd (by simp [hn]), ne_Es es (b + szE e) fun nd hn => h nd (by simp [hn])⟩
end
mutual
theorem ns_S : (s : Stm) → (b : Nat) → (nx : Int) → (∀ nd ∈ flS b nx s, NW nd) → NS s
  | .vd s p t e, b, nx, h => by
    simp only [NS]
    simp only [flS] at h
    exact ⟨(h ⟨3, rtE b e, -1, -1, nx, t, p, s⟩ (by simp)).1 (by simp), ne_E e b (-1) fun nd hn => h nd (by simp [hn])⟩
  | .asg p x y, b, nx, h => by
    simp only [NS]
    simp only [flS] at h
    exact ⟨ne_E x b (-1) fun nd hn => h nd (by simp [hn]), ne_E y (b + szE x) (-1) fun nd hn => h nd (by simp [hn])⟩
  | .iff p e bp ss, b, nx, h => by
    simp only [NS]
    simp only [flS] at h
    exact ⟨ne_E e b (-1) fun nd hn => h nd (by simp [hn]), ns_Ss ss (b + szE e) fun nd hn => h nd (by simp [hn])⟩
  | .ife p e bp ss cp cs, b, nx, h => by
    simp only [NS]
    simp only [flS] at h
    exact ⟨ne_E e b (-1) fun nd hn => h nd (by simp [hn]), ns_Ss ss (b + szE e) fun nd hn => h nd (by simp [hn]), ns_Ss cs (b + szE e + (szSs ss + 1)) fun nd hn => h nd (by simp [hn])⟩
  | .whl p e bp ss, b, nx, h => by
    simp only [NS]
    simp only [flS] at h
    exact ⟨ne_E e b (-1) fun nd hn => h nd (by simp [hn]), ns_Ss ss (b + szE e) fun nd hn => h nd (by simp [hn])⟩
  | .ret p e, b, nx, h => by
    simp only [NS]
    simp only [flS] at h
    exact ne_E e b (-1) fun nd hn => h nd (by simp [hn])
  | .prt p e, b, nx, h => by
    simp only [NS]
    simp only [flS] at h
    exact ne_E e b (-1) fun nd hn => h nd (by simp [hn])
  | .exp e, b, nx, h => by
    simp only [NS]
    simp only [flS] at h
    exact ne_E e b (-1) fun nd hn => h nd (by simp [hn])
theorem ns_Ss : (es : Stms) → (b : Nat) → (∀ nd ∈ flSs b es, NW nd) → NSs es
  | .nil, _, _ => by simp only [NSs]
  | .cons e es, b, h => by
    simp only [NSs]
    simp only [flSs] at h
    exact ⟨ns_S e b (hdS (b + szS e) es) fun nd hn => h nd (by simp [hn]), ns_Ss es (b + szS e) fun nd hn => h nd (by simp [hn])⟩
end
theorem nw_P : ∀ (xs : List Prm) (b : Nat), (∀ nd ∈ flP b xs, NW nd) → ∀ x ∈ xs, IdOk x.s
  | [], _, _, x, hx => by cases hx
  | [y], b, h, x, hx => by
    simp only [List.mem_singleton] at hx
    subst hx
    exact (h _ (by simp only [flP, List.mem_singleton]; rfl)).1 (by simp)
  | y :: z :: r, b, h, x, hx => by
    simp only [flP] at h
    rcases List.mem_cons.1 hx with rfl | hx
    · exact (h _ (List.mem_cons_self ..)).1 (by simp)
    · exact nw_P (z :: r) (b + 1) (fun nd hn => h nd (List.mem_cons_of_mem _ hn)) x hx
theorem nw_F (f : Fnc) (b : Nat) (nx : Int) (h : ∀ nd ∈ flF b nx f, NW nd) : NFn f := by
  unfold flF flB at h
  exact ⟨(h ⟨0, hdP b f.ps, ((b + f.ps.length + szSs f.ss : Nat) : Int), -1, nx, f.t, f.p, f.s⟩ (by simp)).1 (by simp), nw_P f.ps b fun nd hn => h nd (by simp [hn]), ns_Ss f.ss (b + f.ps.length) fun nd hn => h nd (by simp [hn])⟩
theorem nw_Fs : ∀ (fs : List Fnc) (b : Nat), (∀ nd ∈ flFs b fs, NW nd) → ∀ f ∈ fs, NFn f
  | [], _, _, f, hf => by cases hf
  | g :: r, b, h, f, hf => by
    simp only [flFs] at h
    rcases List.mem_cons.1 hf with rfl | hf
    · exact nw_F f b (hdF (b + szF f) r) fun nd hn => h nd (by simp [hn])
    · exact nw_Fs r (b + szF g) (fun nd hn => h nd (by simp [hn])) f hf
/-- A program whose text the parser takes. -/
structure Good (fs : List Fnc) : Prop where
  ok : ∀ f ∈ fs, OkF f
  nm : ∀ f ∈ fs, NFn f
  sz : szFs fs ≤ 200
theorem Ans.good {src : ByteArray} {ns : List Nd} {r e p : Int} (h : Ans src ns r e p) (h0 : e = 0) : ∃ fs, Good fs ∧ ns = flFs 0 fs ∧ r = hdF 0 fs := by
  rcases h with ⟨h1, _, _, rfl, _⟩ | ⟨h1, ⟨_, h2, _⟩ | ⟨j, h2, _⟩⟩
  · exact absurd h0 h1
  · exact absurd h0 h2
  · have hw := ansTs_w h1
    obtain ⟨fs, o, e1, e2⟩ := prog_tree (fun i hi => ((hw i).2 hi).1) h2
    have hn := nodesW hw h2
    rw [e1] at hn
    exact ⟨fs, ⟨o, nw_Fs fs 0 hn.1, by have := hn.2; rwa [flFs_len] at this⟩, e1, e2⟩
/-- THE PLAIN LAW. -/
theorem Good.back {fs : List Fnc} (h : Good fs) {p : ByteArray} (hp : p.data.toList = prFs fs) {ns : List Nd} {r e q : Int} (ha : Ans p ns r e q) :
    (p.size ≤ 4096 → e = 0 ∧ r = hdF 0 fs ∧ Zq ns (flFs 0 fs)) ∧ (¬ p.size ≤ 4096 → e = 31 ∧ q = 4096) := by
  constructor
  · intro hsz
    have hs : Sc p.data.toList (tFs fs) := by rw [hp]; exact sc_Fs fs h.nm h.ok
    obtain ⟨h0, T, hT, hm⟩ := ans_text hs hsz
    obtain ⟨j, ms, hz, hv⟩ := read_back hm rfl h.ok h.sz
    rw [← hT] at hv
    rcases ha with ⟨h1, _⟩ | ⟨h1, ⟨h2, _⟩ | ⟨j, h2, rfl, _⟩⟩
    · exact absurd h0 h1
    · have := h2.det hv; cases this
    · have := h2.det hv
      cases this
      exact ⟨rfl, rfl, hz⟩
  · intro hsz
    have e1 : ansErr p = 31 := by unfold ansErr; rw [if_neg hsz]
    have e2 : ansPos p = 4096 := by unfold ansPos; rw [if_neg hsz]
    rcases ha with ⟨h1, _, _, rfl, rfl⟩ | ⟨h1, _⟩
    · exact ⟨e1, e2⟩
    · rw [e1] at h1; cases h1
end Go.Proofs.Qxb6500280a
