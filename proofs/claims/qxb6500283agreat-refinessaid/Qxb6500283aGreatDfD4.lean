import Derived.Test.Qxb6500283aGreatDfD3
import Derived.Test.Qxb6500283aGreatPkWHas
namespace Go.Proofs.Qxb6500283aGreat
open Go Go.RowKit

theorem Mach.setKey {w : World} {x : Nat} {kv : Value} {s : DS} (h : Mach w x kv s) (c v : Nat) (hc : c < 6) : Mach (w.setCell ⟨x, 4 + c, none⟩ (.int .u64 v)) x kv { s with keys := upd s.keys c v } :=
  h.setM (4 + c) _ rfl rfl fun k hk => by
    rcases (show c = 0 ∨ c = 1 ∨ c = 2 ∨ c = 3 ∨ c = 4 ∨ c = 5 by omega) with rfl | rfl | rfl | rfl | rfl | rfl <;>
    rcases lt16 hk with rfl | rfl | rfl | rfl | rfl | rfl | rfl | rfl | rfl | rfl | rfl | rfl | rfl | rfl | rfl | rfl <;> simp [upd, mcell]
theorem Mach.setUsed {w : World} {x : Nat} {kv : Value} {s : DS} (h : Mach w x kv s) (v : Nat) : Mach (w.setCell ⟨x, 10, none⟩ (.int .i64 v)) x kv { s with used := v } :=
  h.setM 10 _ rfl rfl fun k hk => by rcases lt16 hk with rfl | rfl | rfl | rfl | rfl | rfl | rfl | rfl | rfl | rfl | rfl | rfl | rfl | rfl | rfl | rfl <;> simp [upd, mcell]
theorem Mach.setBuilt {w : World} {x : Nat} {kv : Value} {s : DS} (h : Mach w x kv s) (v : Nat) : Mach (w.setCell ⟨x, 13, none⟩ (.int .i64 v)) x kv { s with built := v } :=
  h.setM 13 _ rfl rfl fun k hk => by rcases lt16 hk with rfl | rfl | rfl | rfl | rfl | rfl | rfl | rfl | rfl | rfl | rfl | rfl | rfl | rfl | rfl | rfl <;> simp [upd, mcell]
theorem Mach.setFlushes {w : World} {x : Nat} {kv : Value} {s : DS} (h : Mach w x kv s) (v : Nat) : Mach (w.setCell ⟨x, 14, none⟩ (.int .i64 v)) x kv { s with flushes := v } :=
  h.setM 14 _ rfl rfl fun k hk => by rcases lt16 hk with rfl | rfl | rfl | rfl | rfl | rfl | rfl | rfl | rfl | rfl | rfl | rfl | rfl | rfl | rfl | rfl <;> simp [upd, mcell]
theorem Mach.key {w : World} {x : Nat} {kv : Value} {s : DS} (h : Mach w x kv s) (c : Nat) (hc : c < 6) : w.cell? ⟨x, 4 + c, none⟩ = some (.int .u64 (s.keys c)) := by rw [h.main.cell (by omega), mcell_key _ _ _ _ hc]

def takeD (s : DS) (v : Nat) : DS := { s with keys := upd s.keys s.used v, used := s.used + 1, built := s.built + 1 }
set_option maxRecDepth 100000 in
set_option maxHeartbeats 1000000 in
theorem take_any {w : World} {x : Nat} {kv : Value} {s : DS} (h : Mach w x kv s) (v : Nat) (hu : s.used < 6) (hb : s.built < 1000000000000000000) :
    Calls Tryz.prog 131 #[.pointer (some ⟨x, 0, none⟩), .int .u64 v] w fun e w' => e = .returned (.int .i64 s.used) ∧ Mach w' x kv (takeD s v) ∧ Fr (mOwn x) w w' := by
  have c10 : w.cell? ⟨x, 10, none⟩ = some (.int .i64 s.used) := h.main.cell (by omega)
  have c13 : w.cell? ⟨x, 13, none⟩ = some (.int .i64 s.built) := h.main.cell (by omega)
  have ck := h.key s.used hu
  have z0 := h.main.frozen
  have key := (((h.setKey s.used v hu).setUsed (s.used + 1)).setBuilt (s.built + 1))
  have Hk : Hid _ := key
  clear key
  go_enter Tryz.func131, Tryz.ntmps131
  go_wp2_with fail
  go_ret
  exact ⟨rfl, Hk.out, (((Fr.refl _ _).mset0 _ _).mset0 _ _).mset0 _ _⟩
set_option maxRecDepth 100000 in
set_option maxHeartbeats 1000000 in
theorem seek_any {w : World} {x : Nat} {kv : Value} {s : DS} (h : Mach w x kv s) (v : Nat) (hu : s.used ≤ 6) :
    Calls Tryz.prog 130 #[.pointer (some ⟨x, 0, none⟩), .int .u64 v] w fun e w' => ((∃ c, c < s.used ∧ s.keys c = v ∧ e = .returned (.int .i64 (c : Nat))) ∨ ((∀ c, c < s.used → s.keys c ≠ v) ∧ e = .returned (.int .i64 (-1)))) ∧ w' = w := by
  have c10 : w.cell? ⟨x, 10, none⟩ = some (.int .i64 s.used) := h.main.cell (by omega)
  go_enter Tryz.func130, Tryz.ntmps130
  go_wp2_with fail
  go_loopg [5] s.used (fun g cv wr => ∃ c : Nat, cv = .int .i64 c ∧ c + g = s.used ∧ (∀ d, d < c → s.keys d ≠ v) ∧ wr = w)
  case atStart => exact ⟨0, rfl, by omega, fun d hd => by omega, rfl⟩
  case round =>
    obtain ⟨c, rfl, hg, hall, rfl⟩ := hrel
    have hg' : c + gk = s.used := hg
    have Hall : Hid _ := hall
    clear hg hall
    by_cases hlt : c < s.used
    · have ck := h.key c (by omega)
      by_cases he : s.keys c = v
      · have He : Hid _ := he
        rw [he] at ck
        clear he
        go_wp2_with fail
        go_ret
        exact ⟨.inl ⟨c, hlt, He.out, rfl⟩, rfl⟩
      · have t1 : ((s.keys c : Int) == (v : Int)) = false := by simp; omega
        have He : Hid _ := he
        clear he
        go_wp2_with fail
        go_roundg (gk - 1)
        case measure => omega
        case rel =>
          refine ⟨c + 1, by simp, by omega, fun d hd => ?_, rfl⟩
          rcases Nat.lt_or_ge d c with h1 | h1
          · exact Hall.out d h1
          · rw [show d = c by omega]; exact He.out
    · go_wp2_with fail
      go_ret
      exact ⟨.inr ⟨fun d hd => Hall.out d (by omega), rfl⟩, rfl⟩

def flushD (s : DS) : DS := { s with keys := fun d => if d < s.used then 0 else s.keys d, next := fun o => if o < s.used * 256 then -1 else s.next o, used := 0, flushes := s.flushes + 1 }
theorem DS.ext' {s t : DS} (h1 : s.kept = t.kept) (h2 : s.chars = t.chars) (h3 : s.ends = t.ends) (h4 : s.hits = t.hits) (h5 : s.keys = t.keys) (h6 : s.used = t.used) (h7 : s.next = t.next) (h8 : s.stk = t.stk) (h9 : s.built = t.built) (h10 : s.flushes = t.flushes) (h11 : s.worked = t.worked) : s = t := by
  cases s; cases t; simp_all
set_option maxRecDepth 100000 in
set_option maxHeartbeats 2000000 in
theorem flush_any {w : World} {x : Nat} {kv : Value} {s : DS} (h : Mach w x kv s) (hu : s.used ≤ 6) (hf : s.flushes < 1000000000000000000) :
    Calls Tryz.prog 126 #[.pointer (some ⟨x, 0, none⟩)] w fun e w' => e = .returned (.tuple #[]) ∧ Mach w' x kv (flushD s) ∧ Fr (mOwn x) w w' := by
  go_enter Tryz.func126, Tryz.ntmps126
  go_wp2_with fail
  go_loopg [2] s.used (fun g cv wr => ∃ c : Nat, cv = .int .i64 c ∧ c + g = s.used ∧ Mach wr x kv { s with keys := fun d => if d < c then 0 else s.keys d, next := fun o => if o < c * 256 then -1 else s.next o } ∧ Fr (mOwn x) w wr)
  case atStart => exact ⟨0, rfl, by omega, by simpa using h, Fr.refl _ _⟩
  case round =>
    obtain ⟨c, rfl, hg, hM, hfr⟩ := hrel
    have hg' : c + gk = s.used := hg
    obtain ⟨G, hG⟩ : ∃ G, G = gk := ⟨gk, rfl⟩
    have d10 : wr.cell? ⟨x, 10, none⟩ = some (.int .i64 s.used) := hM.main.cell (by omega)
    have d14 : wr.cell? ⟨x, 14, none⟩ = some (.int .i64 s.flushes) := hM.main.cell (by omega)
    have z1 := hM.main.frozen
    clear hg
    by_cases hlt : c < s.used
    · have ck := hM.key c (by omega)
      have k1 : Mach (wr.setCell ⟨x, 4 + c, none⟩ (.int .u64 (0 : Nat))) x kv { s with keys := fun d => if d < c + 1 then 0 else s.keys d, next := fun o => if o < c * 256 + 0 then -1 else s.next o } := by
        have := hM.setKey c 0 (by omega)
        have e : ∀ (a b : DS), a = b → Mach (wr.setCell ⟨x, 4 + c, none⟩ (.int .u64 (0 : Nat))) x kv a → Mach (wr.setCell ⟨x, 4 + c, none⟩ (.int .u64 (0 : Nat))) x kv b := fun a b e h => e ▸ h
        refine e _ _ ?_ this
        refine DS.ext' rfl rfl rfl rfl ?_ rfl rfl rfl rfl rfl rfl
        funext d
        simp only [upd]
        by_cases h1 : d = c
        · subst h1; simp
        · simp only [h1, if_false]
          by_cases h2 : d < c
          · simp [h2, show d < c + 1 by omega]
          · simp [h2, show ¬ d < c + 1 by omega]
      have f1 := hfr.mset0 (4 + c) (.int .u64 (0 : Nat))
      have K1 : Hid _ := k1
      have F1 : Hid _ := f1
      clear k1 f1
      go_wp2_with fail
      go_loopg [3] 256 (fun g kv2 wr2 => ∃ k : Nat, kv2 = .int .i64 k ∧ k + g = 256 ∧ Mach wr2 x kv { s with keys := fun d => if d < c + 1 then 0 else s.keys d, next := fun o => if o < c * 256 + k then -1 else s.next o } ∧ Fr (mOwn x) w wr2)
      case atStart => exact ⟨0, rfl, by omega, K1.out, F1.out⟩
      case round =>
        clear hM hfr d10 d14 z1 ck K1 F1
        obtain ⟨k, rfl, hg2, hM, hfr⟩ := hrel
        have hg3 : k + gk = 256 := hg2
        have d10 : wr.cell? ⟨x, 11, none⟩ = some (.slice (some ⟨x + 1, 0, none⟩) 1536 1536) := hM.main.cell (by omega)
        have zn := hM.nx.frozen
        clear hg2
        by_cases hk : k < 256
        · have hat : c * 256 + k < 1536 := by omega
          obtain ⟨v0, hv0⟩ : ∃ v, wr.cell? ⟨x + 1, c * 256 + k, none⟩ = some v := ⟨_, hM.nx.cell hat⟩
          have hat2 : (c : Int) * 256 + k < 1536 := by omega
          have k2 := hM.setN (c * 256 + k) (-1)
          have e : ({ s with keys := fun d => if d < c + 1 then 0 else s.keys d, next := upd (fun o => if o < c * 256 + k then -1 else s.next o) (c * 256 + k) (-1) } : DS) = { s with keys := fun d => if d < c + 1 then 0 else s.keys d, next := fun o => if o < c * 256 + (k + 1) then -1 else s.next o } := by
            refine DS.ext' rfl rfl rfl rfl rfl rfl ?_ rfl rfl rfl rfl
            funext o
            simp only [upd]
            by_cases h1 : o = c * 256 + k
            · subst h1; simp
            · simp only [h1, if_false]
              by_cases h2 : o < c * 256 + k
              · simp [h2, show o < c * 256 + (k + 1) by omega]
              · simp [h2, show ¬ o < c * 256 + (k + 1) by omega]
          have K2 : Hid _ := k2
          have HE : Hid _ := e
          clear k2 e
          go_wp2_with fail
          go_roundg (gk - 1)
          case measure => omega
          case rel =>
            refine ⟨k + 1, by simp, by omega, ?_, hfr.mset 1 _ _ (by omega)⟩
            rw [← HE.out]; exact K2.out
        · have hke : k = 256 := by omega
          subst hke
          clear hk
          go_wp2_with fail
          go_roundg (G - 1)
          case measure => omega
          case rel => exact ⟨c + 1, by simp, by omega, by rw [show (c + 1) * 256 = c * 256 + 256 by omega]; exact hM, hfr⟩
    · have key := (hM.setUsed 0).setFlushes (s.flushes + 1)
      have e : ({ s with keys := fun d => if d < c then 0 else s.keys d, next := fun o => if o < c * 256 then -1 else s.next o, used := 0, flushes := s.flushes + 1 } : DS) = flushD s := by
        have : c = s.used := by omega
        subst this; rfl
      have Hk : Hid _ := key
      clear key
      go_wp2_with fail
      go_end0
      refine ⟨rfl, ?_, (hfr.mset0 _ _).mset0 _ _⟩
      rw [← e]; exact Hk.out

/-- The cell of a set: found, or laid into the next free cell (all is emptied first if none is free). -/
def CellR (s : DS) (v c : Nat) (s' : DS) : Prop :=
  (c < s.used ∧ s.keys c = v ∧ s' = s) ∨ ((∀ d, d < s.used → s.keys d ≠ v) ∧ ((s.used < 6 ∧ c = s.used ∧ s' = takeD s v) ∨ (s.used = 6 ∧ c = 0 ∧ s' = takeD (flushD s) v)))
set_option maxRecDepth 100000 in
set_option maxHeartbeats 1000000 in
theorem cellOf_any {w : World} {x : Nat} {kv : Value} {s : DS} (h : Mach w x kv s) (v : Nat) (hu : s.used ≤ 6) (hb : s.built < 1000000000000000000) (hf : s.flushes < 1000000000000000000) :
    Calls Tryz.prog 97 #[.pointer (some ⟨x, 0, none⟩), .int .u64 v] w fun e w' => ∃ c s', e = .returned (.int .i64 (c : Nat)) ∧ CellR s v c s' ∧ Mach w' x kv s' ∧ Fr (mOwn x) w w' := by
  have c10 : w.cell? ⟨x, 10, none⟩ = some (.int .i64 s.used) := h.main.cell (by omega)
  go_enter Tryz.func97, Tryz.ntmps97
  go_wp2_with fail
  refine (seek_any h v hu).mono ?_
  rintro e w2 ⟨⟨c, hc, hk, rfl⟩ | ⟨hall, rfl⟩, rfl⟩
  · go_wp2_with fail
    go_ret
    exact ⟨c, s, rfl, .inl ⟨hc, hk, rfl⟩, h, Fr.refl _ _⟩
  · by_cases hu6 : s.used < 6
    · have Hall : Hid _ := hall
      clear hall
      go_wp2_with fail
      refine (take_any h v hu6 hb).mono ?_
      rintro e w3 ⟨rfl, hM, f3⟩
      go_wp2_with fail
      go_ret
      exact ⟨s.used, _, rfl, .inr ⟨Hall.out, .inl ⟨hu6, rfl, rfl⟩⟩, hM, f3⟩
    · have hu6' : s.used = 6 := by omega
      rw [hu6'] at c10
      have Hall : Hid _ := hall
      have Hu : Hid _ := hu6'
      clear hall hu6 hu6'
      go_wp2_with fail
      refine (flush_any h hu hf).mono ?_
      rintro e w3 ⟨rfl, hM, f3⟩
      go_wp2_with fail
      refine (take_any hM v (by simp [flushD]) hb).mono ?_
      rintro e w4 ⟨rfl, hM4, f4⟩
      go_wp2_with fail
      go_ret
      exact ⟨0, _, rfl, .inr ⟨Hall.out, .inr ⟨Hu.out, rfl, rfl⟩⟩, hM4, f3.trans f4 (fun _ _ h => h)⟩
end Go.Proofs.Qxb6500283aGreat
