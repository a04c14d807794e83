import Derived.Test.Qxb6500283aGreatDfD6
namespace Go.Proofs.Qxb6500283aGreat
open Go Go.RowKit

def sameP (p q : List In) : Bool := decide (p.length = q.length) && (List.range p.length).all fun k => match p[k]?, q[k]? with
  | some a, some b => sameI a b
  | _, _ => false
theorem sameP_iff (p q : List In) : sameP p q = true ↔ p = q := by
  unfold sameP
  simp only [Bool.and_eq_true, decide_eq_true_eq, List.all_eq_true, List.mem_range]
  constructor
  · rintro ⟨h1, h2⟩
    refine List.ext_getElem h1 fun k hk hk' => ?_
    have := h2 k hk
    simp only [List.getElem?_eq_getElem hk, List.getElem?_eq_getElem hk'] at this
    exact (sameI_iff _ _).1 this
  · rintro rfl
    refine ⟨rfl, fun k hk => ?_⟩
    simp only [List.getElem?_eq_getElem hk]
    exact (sameI_iff _ _).2 rfl
theorem sameP_no {p q : List In} (h : p ≠ q) : sameP p q = false := by
  cases hs : sameP p q with
  | false => rfl
  | true => exact absurd ((sameP_iff p q).1 hs) h

/-- The kept program: none yet, or a good one in a block of its own. -/
def KV (w : World) (x : Nat) (kv : Value) (K : List In) : Prop := (kv = .slice none 0 0 ∧ K = []) ∨ ∃ kb cap, KeptD w x kv kb cap K
theorem KV.frame {S : Nat → Prop} {w w' : World} {x : Nat} {kv : Value} {K : List In} (h : KV w x kv K) (k : Fr S w w') (hS : ∀ b n c, kv = .slice (some ⟨b, 0, none⟩) n c → ¬ S b) : KV w' x kv K := by
  rcases h with h | ⟨kb, cap, h⟩
  · exact .inl h
  · exact .inr ⟨kb, cap, h.frame k (hS kb _ _ h.v)⟩
theorem KV.sl {w : World} {x : Nat} {kv : Value} {K : List In} (h : KV w x kv K) : ∃ a cap, kv = .slice a K.length cap := by
  rcases h with ⟨rfl, rfl⟩ | ⟨kb, cap, h⟩
  · exact ⟨none, 0, rfl⟩
  · exact ⟨_, _, h.v⟩
set_option maxRecDepth 100000 in
set_option maxHeartbeats 4000000 in
theorem isKept_any {w : World} {x : Nat} {kv : Value} {s : DS} {K p : List In} {pb pc : Nat} (h : Mach w x kv s) (hk : KV w x kv K) (hp : PAt w pb p) (hok : OkProg p) :
    Calls Tryz.prog 125 #[.pointer (some ⟨x, 0, none⟩), .slice (some ⟨pb, 0, none⟩) p.length pc] w fun e w' => e = .returned (.bool (sameP p K)) ∧ Fr (fun _ => False) w w' := by
  have hm := hok.max
  have hxl := h.main.lt
  by_cases hl : p.length = K.length
  · rcases hk with ⟨_, rfl⟩ | ⟨kb, cap, hk⟩
    · have := hok.pos; simp at hl; rw [hl] at this; simp at this
    have c0 : w.cell? ⟨x, 0, none⟩ = some (.slice (some ⟨kb, 0, none⟩) p.length cap) := by rw [h.main.cell (by omega), hl]; exact congrArg _ hk.v
    have Hl : Hid _ := hl
    clear hl
    go_enter Tryz.func125, Tryz.ntmps125
    go_wp2_with fail
    go_loopg [5] p.length (fun g kv wr => ∃ k : Nat, kv = .int .i64 k ∧ k + g = p.length ∧ (∀ j (h1 : j < p.length) (h2 : j < K.length), j < k → p[j] = K[j]) ∧ Fr (fun _ => False) w wr)
    case atStart => exact ⟨0, rfl, by omega, fun j h1 h2 h3 => by omega, Fr.refl _ _⟩
    case round =>
      obtain ⟨k, rfl, hg, hall, hfr⟩ := hrel
      have hg' : k + gk = p.length := hg
      have d0 : wr.cell? ⟨x, 0, none⟩ = some (.slice (some ⟨kb, 0, none⟩) p.length cap) := by rw [hfr.cell (p := ⟨x, 0, none⟩) hxl (by simp)]; exact c0
      have Hall : Hid _ := hall
      clear hg hall
      by_cases hlt : k < p.length
      · have hq : k < K.length := by have := Hl.out; omega
        have pa1 := hp.frame hfr (by simp)
        have pb1 := hk.at_.frame hfr (by simp)
        have a0 := pa1 k hlt 0 (by omega)
        have a1 := pa1 k hlt 1 (by omega)
        have a2 := pa1 k hlt 2 (by omega)
        have a3 := pa1 k hlt 3 (by omega)
        have a4 := pa1 k hlt 4 (by omega)
        have a5 := pa1 k hlt 5 (by omega)
        have a6 := pa1 k hlt 6 (by omega)
        have b0 := pb1 k hq 0 (by omega)
        have b1 := pb1 k hq 1 (by omega)
        have b2 := pb1 k hq 2 (by omega)
        have b3 := pb1 k hq 3 (by omega)
        have b4 := pb1 k hq 4 (by omega)
        have b5 := pb1 k hq 5 (by omega)
        have b6 := pb1 k hq 6 (by omega)
        simp only [inCell, Nat.add_zero] at a0 a1 a2 a3 a4 a5 a6 b0 b1 b2 b3 b4 b5 b6
        go_wp2_with fail
        refine wp_region_text (by kernel_rfl) (by kernel_rfl) ?_
        go_wp2_with fail
        refine (sameInst56 p[k] K[k] _).mono ?_
        rintro e w3 ⟨rfl, f3⟩
        cases hs : sameI p[k] K[k] with
        | true =>
          go_wp2_with fail
          refine ⟨by kernel_rfl, ?_⟩
          go_wp2_with fail
          go_roundg (gk - 1)
          case measure => omega
          case rel =>
            refine ⟨k + 1, by simp, by omega, fun j h1 h2 h3 => ?_, hfr.drew.trans f3 (fun _ _ h => h)⟩
            rcases Nat.lt_or_ge j k with h4 | h4
            · exact Hall.out j h1 h2 h4
            · have : j = k := by omega
              subst this; exact (sameI_iff _ _).1 hs
        | false =>
          go_wp2_with fail
          refine ⟨by kernel_rfl, ?_⟩
          go_wp2_with fail
          go_ret
          refine ⟨?_, hfr.drew.trans f3 (fun _ _ h => h)⟩
          rw [sameP_no (fun e => by subst e; rw [(sameI_iff _ _).2 rfl] at hs; cases hs)]
          rfl
      · go_wp2_with fail
        go_ret
        refine ⟨?_, hfr⟩
        rw [(sameP_iff p K).2 (List.ext_getElem Hl.out fun j h1 h2 => Hall.out j h1 h2 (by omega))]
        rfl
  · rw [sameP_no (fun e => hl (by rw [e]))]
    obtain ⟨a, cap, e⟩ := hk.sl
    have c0 : w.cell? ⟨x, 0, none⟩ = some (.slice a K.length cap) := by rw [h.main.cell (by omega)]; exact congrArg _ e
    have t1 : ((p.length : Int) != (K.length : Int)) = true := by simp; omega
    have t2 : (p.length : Int) ≠ (K.length : Int) := by omega
    clear hl e
    go_enter Tryz.func125, Tryz.ntmps125
    go_wp2_with fail
    go_ret
    exact ⟨rfl, Fr.refl _ _⟩
end Go.Proofs.Qxb6500283aGreat
