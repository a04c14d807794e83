/- The round trip, plain: the tokens of a text that the lexer takes. -/
import Derived.Test.Qxb6500280aRT5
namespace Go.Proofs.Qxb6500280a
open Go Go.RowKit

/-- A name is a word; a number is in range. -/
def TW (t : Tok) : Prop := (t.kind = 1 → letterB (bt t.text 0) = true ∧ ∀ o, o < t.text.size → alnumB (bt t.text o) = true) ∧ (t.kind = 2 → t.val ≤ 9223372036854775807)
theorem TW.sign (k : Nat) (p : Int) (h : 3 ≤ k) : TW ⟨k, p, 0, ⟨#[]⟩⟩ := ⟨fun e => absurd (show (k : Int) = 1 from e) (by omega), fun e => absurd (show (k : Int) = 2 from e) (by omega)⟩
structure MW (src : ByteArray) (i : Nat) (r : R) : Prop where
  tk : ∀ t ∈ r.toks, TW t
  wd : r.state = 1 → r.fail = 0 → letterB (bt src r.start) = true ∧ ∀ o, r.start ≤ o → o < i → alnumB (bt src o) = true
theorem TW.snoc {ts : List Tok} {t : Tok} (h : ∀ t ∈ ts, TW t) (ht : TW t) : ∀ x ∈ ts ++ [t], TW x := fun x hx => by
  rcases List.mem_append.1 hx with h1 | h1
  · exact h x h1
  · simp at h1; subst h1; exact ht
theorem feed_mw {src : ByteArray} {i k : Nat} {r : R} (hm : MI src i r) (h : MW src i r) (h0 : r.fail = 0) (hi : i ≤ src.size) (hk : k = 1 ∨ k = 2 → alnumB (bt src i) = true) (c : Nat) :
    ((feedR src i c k r).2 = true → MW src (i + 1) (feedR src i c k r).1) ∧ ((feedR src i c k r).2 = false → MW src i (feedR src i c k r).1) := by
  have h5 := hm.st5
  have hval := hm.val
  unfold feedR
  split
  · rename_i hs
    obtain ⟨l1, l2, l3⟩ := hm.len2 (by omega)
    obtain ⟨w1, w2⟩ := h.wd hs h0
    split
    · rename_i hkk
      refine ⟨fun _ => ?_, fun e => by cases e⟩
      split
      · exact ⟨h.tk, fun _ e => by simp at e⟩
      · refine ⟨h.tk, fun _ _ => ⟨w1, fun o h1 h2 => ?_⟩⟩
        by_cases e : o = i
        · subst e; exact hk hkk
        · exact w2 o h1 (by omega)
    · refine ⟨(fun e => by cases e), fun _ => ⟨TW.snoc h.tk ?_, fun e => by simp at e⟩⟩
      have hz := size_ex src r.start i hi
      unfold wordT
      split
      · rename_i hq
        rcases guess_in (src.extract r.start i).size r.first with e | ⟨e1, e2⟩
        · exact absurd e hq.1
        · exact TW.sign _ _ e1
      · refine ⟨fun _ => ⟨?_, fun o ho => ?_⟩, fun e => by simp at e⟩
        · simp only []
          rw [bt_extract _ _ _ _ (by omega) hi, Nat.add_zero]; exact w1
        · simp only [] at ho ⊢
          rw [hz] at ho
          rw [bt_extract _ _ _ _ (by omega) hi]
          exact w2 _ (by omega) (by omega)
  · split
    · split
      · refine ⟨fun _ => ?_, fun e => ?_⟩
        · rename_i hs1 hs _ _
          split
          · exact ⟨h.tk, fun _ e => by simp at e⟩
          · exact ⟨h.tk, fun e => absurd (show r.state = 1 from e) hs1⟩
        · split at e <;> cases e
      · refine ⟨(fun e => by cases e), fun _ => ⟨TW.snoc h.tk ⟨fun e => by simp at e, fun _ => ?_⟩, fun e => by simp at e⟩⟩
        simp only []
        omega
    · split
      · rename_i hs1 _ _
        split
        · exact ⟨fun _ => ⟨h.tk, fun e => absurd e hs1⟩, fun e => by cases e⟩
        · exact ⟨(fun e => by cases e), fun _ => ⟨h.tk, fun e => by simp at e⟩⟩
      · split
        · rename_i hs1 _ _ _
          split
          · rename_i ht
            rcases twin_in r.first c with e | ⟨e1, e2, e3⟩
            · exact absurd e ht
            exact ⟨fun _ => ⟨TW.snoc h.tk (TW.sign _ _ (by omega)), fun e => by simp at e⟩, fun e => by cases e⟩
          · split
            · exact ⟨fun _ => ⟨h.tk, fun _ e => by simp at e⟩, fun e => by cases e⟩
            · rename_i hg
              rcases single_in r.first with e | ⟨e1, e2, e3⟩
              · exact absurd e hg
              exact ⟨(fun e => by cases e), fun _ => ⟨TW.snoc h.tk (TW.sign _ _ (by omega)), fun e => by simp at e⟩⟩
        · exact ⟨fun e => by (cases e), fun _ => ⟨h.tk, fun e => by simp at e⟩⟩
theorem begin_mw {src : ByteArray} {i : Nat} {r : R} (h : MW src i r) (hid : Idle r) : MW src (i + 1) (beginR i (bt src i) (classN (bt src i)) r) := by
  have hs := hid.1
  unfold beginR
  split
  · rename_i hk
    refine ⟨h.tk, fun _ _ => ⟨(cls_letter _).1 hk, fun o h1 h2 => ?_⟩⟩
    simp only [] at h1
    obtain rfl : o = i := by omega
    exact (alnum_cls _).2 (.inl hk)
  · split
    · exact ⟨h.tk, fun e => by simp at e⟩
    · split
      · exact ⟨h.tk, fun e => by simp at e⟩
      · split
        · exact ⟨h.tk, fun e => by simp at e⟩
        · split
          · rename_i hk
            rcases single_in (bt src i) with e | ⟨e1, e2, e3⟩
            · exact absurd e (sign_ne _ hk)
            exact ⟨TW.snoc h.tk (TW.sign _ _ (by omega)), fun e => by simp [pushR, hs] at e⟩
          · split
            · exact ⟨h.tk, fun e => by simp [hs] at e⟩
            · exact ⟨h.tk, fun e => by simp [hs] at e⟩
theorem step_mw {src : ByteArray} {i : Nat} {r : R} (hm : MI src i r) (h : MW src i r) (h0 : r.fail = 0) (hi : i ≤ src.size) : MW src (i + 1) (stepR src i r) := by
  obtain ⟨h1, h2⟩ := feed_mw (k := classN (bt src i)) hm h h0 hi (fun q => (alnum_cls _).2 q) (bt src i)
  obtain ⟨_, m2⟩ := feed_mi (c := bt src i) (k := classN (bt src i)) hm h0 hi
  unfold stepR
  simp only []
  split
  · rename_i hb; exact h1 hb
  · rename_i hb
    have hb' : (feedR src i (bt src i) (classN (bt src i)) r).2 = false := by simpa using hb
    exact begin_mw (h2 hb') (m2 hb').2
theorem fin_mw {src : ByteArray} : ∀ (n i : Nat) (r : R), i + n = src.size → MI src i r → MW src i r → ∀ t ∈ (finR src i r).toks, TW t
  | n, i, r, hn, hm, hw => by
    by_cases h0 : r.fail = 0
    · match n with
      | 0 =>
        have e : i = src.size := by omega
        subst e
        rw [fin_end h0]
        obtain ⟨h1, h2⟩ := feed_mw (k := 7) hm hw h0 (Nat.le_refl _) (fun q => by omega) 0
        cases hb : (feedR src src.size 0 7 r).2 with
        | true => exact (h1 hb).tk
        | false => exact (h2 hb).tk
      | n + 1 =>
        rw [fin_step (by omega) h0]
        exact fin_mw n (i + 1) _ (by omega) (step_mi hm h0 (by omega)) (step_mw hm hw h0 (by omega))
    · rw [fin_fail h0]; exact hw.tk
theorem r0_mw (src : ByteArray) : MW src 0 r0 := ⟨fun t h => by simp [r0] at h, fun e => by simp [r0] at e⟩
/-- A name. -/
def IdOk (s : ByteArray) : Prop := 1 ≤ s.size ∧ s.size ≤ 8 ∧ letterB (bt s 0) = true ∧ (∀ o, o < s.size → alnumB (bt s o) = true) ∧ s ≠ tokText (guessN s.size (bt s 0))
theorem zT_w : (zeroTok.kind = 1 → IdOk zeroTok.text) ∧ (zeroTok.kind = 2 → 0 ≤ zeroTok.val ∧ zeroTok.val ≤ 9223372036854775807) := ⟨fun e => absurd e (by decide), fun e => absurd e (by decide)⟩
theorem ansTs_w {src : ByteArray} (h0 : ansErr src = 0) (i : Nat) : (kd (ansTs src) i = 1 → IdOk (tk (ansTs src) i).text) ∧ (kd (ansTs src) i = 2 → 0 ≤ (tk (ansTs src) i).val ∧ (tk (ansTs src) i).val ≤ 9223372036854775807) := by
  unfold kd tk ansTs
  unfold ansErr at h0
  by_cases hsz : src.size ≤ 4096
  · rw [if_pos hsz] at h0
    have h0' : (finR src 0 r0).fail = 0 := by simpa using h0
    obtain ⟨a, b'⟩ := fin_mi src.size 0 r0 (by omega) (r0_mi src) h0'
    have hw := fin_mw src.size 0 r0 (by omega) (r0_mi src) (r0_mw src)
    have hf := a.fine
    rw [if_pos ⟨hsz, h0'⟩]
    by_cases hlt : i < (finR src 0 r0).toks.length
    · rw [List.getElem?_append_left hlt, List.getElem?_eq_getElem hlt, Option.getD_some]
      obtain ⟨s, hk, _⟩ := hf i hlt
      obtain ⟨w1, w2⟩ := hw _ (List.getElem_mem hlt)
      exact ⟨fun e => ⟨(s.id e).2.1, (s.id e).2.2.1, (w1 e).1, (w1 e).2, (s.id e).2.2.2⟩, fun e => ⟨(s.num e).1, w2 e⟩⟩
    · by_cases he : i = (finR src 0 r0).toks.length
      · subst he
        rw [List.getElem?_append_right (Nat.le_refl _)]
        simp [eofT]
      · rw [List.getElem?_eq_none (by simp; omega)]
        exact zT_w
  · rw [if_neg (fun h => hsz h.1)]
    simpa using zT_w
/-- What each node of a read text is. -/
def NW (nd : Nd) : Prop := ((nd.kind = 0 ∨ nd.kind = 1 ∨ nd.kind = 3 ∨ nd.kind = 12 ∨ nd.kind = 13) → IdOk nd.name) ∧ (nd.kind = 10 → 0 ≤ nd.val ∧ nd.val ≤ 9223372036854775807)
def NsW (ns : List Nd) : Prop := (∀ nd ∈ ns, NW nd) ∧ ns.length ≤ 200
def SafeW : Mo → Prop
  | .ret (.bad ..) => True
  | .ret (.ok _ _ ns) => NsW ns
  | .call _ _ ns k => NsW ns ∧ ∀ x j ms, NsW ms → SafeW (k x j ms)
section
variable {T : List Tok} {i : Nat} {ns : List Nd}
theorem sw_bad (e p : Int) : SafeW (.ret (.bad e p)) := by simp [SafeW]
theorem sw_fin (x : Int) (h : NsW ns) : SafeW (fin x i ns) := by unfold fin; simpa [SafeW] using h
theorem sw_call {q : Rq} {k : Int → Nat → List Nd → Mo} (h : NsW ns) (hk : ∀ x j ms, NsW ms → SafeW (k x j ms)) : SafeW (.call q i ns k) := by simp only [SafeW]; exact ⟨h, hk⟩
theorem sw_put {nd : Nd} {k : Int → Nat → List Nd → Mo} (hn : NW nd) (h : NsW ns) (hk : ∀ x j ms, NsW ms → SafeW (k x j ms)) : SafeW (put nd i ns k) := by
  unfold put
  split
  · exact sw_bad _ _
  · refine hk _ _ _ ⟨fun y hy => ?_, by simp; omega⟩
    simp only [List.mem_append, List.mem_singleton] at hy
    rcases hy with hy | rfl
    · exact h.1 y hy
    · exact hn
theorem sw_wnt {k : Int} {f : Nat → Mo} (h : kd T i = k → ∀ j, SafeW (f j)) : SafeW (wnt T k i f) := by
  unfold wnt
  split
  · exact h (by assumption) _
  · exact sw_bad _ _
theorem sw_ent {d : Nat} {m : Mo} (h : SafeW m) : SafeW (ent T d i m) := by
  unfold ent
  split
  · exact sw_bad _ _
  · exact h
theorem sw_tyO {f : Nat → Nat → Mo} (h : ∀ l j, SafeW (f l j)) : ∀ (l i : Nat), SafeW (tyO T l i f)
  | 0, i => by
    unfold tyO
    split
    · exact sw_bad _ _
    · exact h _ _
  | l + 1, i => by
    unfold tyO
    split
    · exact sw_tyO h l _
    · exact h _ _
theorem sw_tyC {f : Nat → Mo} (h : ∀ j, SafeW (f j)) : ∀ (l i : Nat), SafeW (tyC T l i f)
  | 0, i => by unfold tyC; exact h _
  | l + 1, i => by unfold tyC; exact sw_wnt fun _ j => sw_tyC h l j
theorem sw_typ {f : Int → Nat → Mo} (h : ∀ t j, SafeW (f t j)) : SafeW (typ T i f) := by
  unfold typ
  refine sw_tyO (fun l j => ?_) _ _
  split
  · exact sw_tyC (h _) _ _
  · split
    · exact sw_tyC (h _) _ _
    · exact sw_bad _ _
theorem sw_com {first : Int} {f : Nat → Mo} (h : ∀ j, SafeW (f j)) : SafeW (com T first i f) := by
  unfold com
  split
  · exact sw_wnt fun _ => h
  · exact h _
theorem NsW.set (h : NsW ns) (k : Nat) (x : Int) : NsW (setNx ns k x) := by
  refine ⟨fun y hy => ?_, by rw [setNx_len]; exact h.2⟩
  unfold setNx at hy
  by_cases hk : k < ns.length
  · rcases List.mem_or_eq_of_mem_set hy with hy | rfl
    · exact h.1 y hy
    · have := h.1 _ (List.getElem_mem hk)
      simpa [List.getElem?_eq_getElem hk, NW] using this
  · rw [List.set_eq_of_length_le (by omega)] at hy
    exact h.1 y hy
theorem sw_lnk {first last x : Int} {k : Int → List Nd → Mo} (h : NsW ns) (hk : ∀ x ms, NsW ms → SafeW (k x ms)) : SafeW (lnk ns first last x k) := by
  unfold lnk
  split
  · exact hk _ _ h
  · exact hk _ _ (h.set _ _)
theorem sw_ite {p : Prop} [Decidable p] {a b : Mo} (ha : p → SafeW a) (hb : SafeW b) : SafeW (if p then a else b) := by
  split
  · exact ha (by assumption)
  · exact hb
theorem sw_body (ht : ∀ i, (kd T i = 1 → IdOk (tk T i).text) ∧ (kd T i = 2 → 0 ≤ (tk T i).val ∧ (tk T i).val ≤ 9223372036854775807)) (q : Rq) (i : Nat) (ns : List Nd) (h : NsW ns) : SafeW (body T q i ns) := by
  have h1 := fun i => (ht i).1
  have h2 := fun i => (ht i).2
  cases q <;> simp only [body]
  all_goals
    repeat (first
      | assumption
      | exact sw_bad _ _
      | exact fun x j ms hm => sw_fin _ hm
      | exact sw_fin _ (by assumption)
      | refine sw_call (by assumption) (fun _ _ _ _ => ?_)
      | refine sw_put (by first | exact ⟨fun _ => h1 _ (by assumption), fun e => absurd e (by simp [fre])⟩ | exact ⟨fun e => absurd e (by simp [fre]), fun _ => h2 _ (by assumption)⟩ | exact ⟨fun e => absurd e (by simp [fre]), fun e => absurd e (by simp [fre])⟩) (by assumption) (fun _ _ _ _ => ?_)
      | refine sw_wnt (fun _ _ => ?_)
      | refine sw_ent ?_
      | refine sw_typ (fun _ _ => ?_)
      | refine sw_com (fun _ => ?_)
      | refine sw_lnk (by assumption) (fun _ _ _ => ?_)
      | refine sw_ite (fun _ => ?_) ?_)
theorem sw_run (ht : ∀ i, (kd T i = 1 → IdOk (tk T i).text) ∧ (kd T i = 2 → 0 ≤ (tk T i).val ∧ (tk T i).val ≤ 9223372036854775807)) : ∀ (n : Nat) (m : Mo) (x : Int) (j : Nat) (ms : List Nd), SafeW m → run T n m = .ok x j ms → NsW ms
  | 0, .ret r, x, j, ms, hs, h => by
    simp only [run] at h; subst h; simpa [SafeW] using hs
  | n + 1, .ret r, x, j, ms, hs, h => by
    simp only [run] at h; subst h; simpa [SafeW] using hs
  | 0, .call .., x, j, ms, hs, h => by simp [run] at h
  | n + 1, .call q i ns k, x, j, ms, hs, h => by
    simp only [SafeW] at hs
    simp only [run] at h
    cases hr : run T n (body T q i ns) with
    | bad e p => rw [hr] at h; cases h
    | ok y j' ms' =>
      rw [hr] at h
      exact sw_run ht n _ _ _ _ (hs.2 _ _ _ (sw_run ht n _ _ _ _ (sw_body ht q i ns hs.1) hr)) h
theorem nodesW (ht : ∀ i, (kd T i = 1 → IdOk (tk T i).text) ∧ (kd T i = 2 → 0 ≤ (tk T i).val ∧ (tk T i).val ≤ 9223372036854775807)) {x : Int} {j : Nat} {ms : List Nd} {q : Rq} (h : EvM T (body T q 0 []) (.ok x j ms)) : NsW ms := by
  obtain ⟨N, h⟩ := h
  exact sw_run ht N _ _ _ _ (sw_body ht q 0 [] ⟨fun _ h => (by cases h), by simp⟩) (h N (Nat.le_refl _))
end
end Go.Proofs.Qxb6500280a
