/- The model's option. -/
import Derived.Test.Qxb6500283aGreatM6
namespace Go.Proofs.Qxb6500283aGreat
open Go Go.RowKit

theorem altNd_eq {a b c d : Nat} (h1 : a = c) (h2 : b = d) : altNd a b = altNd c d := by rw [h1, h2]
theorem catNd_eq {a b c d : Nat} (h1 : a = c) (h2 : b = d) : catNd a b = catNd c d := by rw [h1, h2]
theorem opt_t1 {f : Run} (hf : Mv f) (out : List Nd) {u : Nat} (hu : u + 1 = (out ++ [leafNd 0 noP]).length + (f 0).length) : out ++ [leafNd 0 noP] ++ f (out ++ [leafNd 0 noP]).length ++ [altNd out.length u] = out ++ optW f true 1 out.length := by
  have h1 := hf.ne
  have e : (out ++ [leafNd 0 noP]).length = out.length + 1 := by simp
  rw [e] at hu ⊢
  rw [optW_one hf, altNd_eq (a := out.length) (b := u) rfl (show u = out.length + segN f true - 1 by simp only [segN, if_true]; omega)]
  simp [segW]
theorem opt_f1 {f : Run} (hf : Mv f) (out : List Nd) {u : Nat} (hu : u + 1 = out.length + (f 0).length) : out ++ f out.length ++ [leafNd 0 noP] ++ [altNd u (out ++ f out.length).length] = out ++ optW f false 1 out.length := by
  have h1 := hf.ne
  have e : (out ++ f out.length).length = out.length + (f 0).length := by rw [List.length_append, hf.len]
  have e1 : altNd u (out ++ f out.length).length = altNd (out.length + segN f false - 1) (out.length + segN f false) := altNd_eq (by simp [segN]; omega) (by rw [e]; simp [segN])
  rw [optW_one hf, e1]
  simp [segW]
theorem opt_tm {f : Run} (hf : Mv f) {k : Nat} (hk : 1 ≤ k) (out : List Nd) {u v : Nat} (hu : u + 1 = (out ++ [leafNd 0 noP]).length + (f 0).length) (hv : v + 1 = (out ++ [leafNd 0 noP] ++ f (out ++ [leafNd 0 noP]).length).length + (optW f true k 0).length) :
    out ++ [leafNd 0 noP] ++ f (out ++ [leafNd 0 noP]).length ++ optW f true k (out ++ [leafNd 0 noP] ++ f (out ++ [leafNd 0 noP]).length).length ++ [catNd u v] ++ [altNd out.length (out ++ [leafNd 0 noP] ++ f (out ++ [leafNd 0 noP]).length ++ optW f true k (out ++ [leafNd 0 noP] ++ f (out ++ [leafNd 0 noP]).length).length).length] = out ++ optW f true (k + 1) out.length := by
  have h1 := hf.ne
  have ho := Mv.opt hf true k hk
  have h2 := ho.ne
  have e : (out ++ [leafNd 0 noP]).length = out.length + 1 := by simp
  rw [e] at hu hv ⊢
  have e2 : (out ++ [leafNd 0 noP] ++ f (out.length + 1)).length = out.length + segN f true := by rw [List.length_append, e, hf.len]; simp [segN]; omega
  have e3 : out.length + segN f true = out.length + 1 + (f 0).length := by simp [segN]; omega
  rw [e2]
  have e4 : (out ++ [leafNd 0 noP] ++ f (out.length + 1) ++ optW f true k (out.length + segN f true)).length = out.length + segN f true + (optW f true k 0).length := by rw [List.length_append, e2, ho.len]
  rw [e4]
  rw [e2] at hv
  rw [optW_more hf true hk, catNd_eq (show u = out.length + segN f true - 1 by omega) (show v = out.length + segN f true + (optW f true k 0).length - 1 by omega)]
  simp [segW]
theorem opt_fm {f : Run} (hf : Mv f) {k : Nat} (hk : 1 ≤ k) (out : List Nd) {u v : Nat} (hu : u + 1 = out.length + (f 0).length) (hv : v + 1 = (out ++ f out.length).length + (optW f false k 0).length) :
    out ++ f out.length ++ optW f false k (out ++ f out.length).length ++ [catNd u v] ++ [leafNd 0 noP] ++ [altNd (out ++ f out.length ++ optW f false k (out ++ f out.length).length).length (out ++ f out.length ++ optW f false k (out ++ f out.length).length ++ [catNd u v]).length] = out ++ optW f false (k + 1) out.length := by
  have h1 := hf.ne
  have ho := Mv.opt hf false k hk
  have h2 := ho.ne
  have e2 : (out ++ f out.length).length = out.length + segN f false := by rw [List.length_append, hf.len]; simp [segN]
  have e3 : segN f false = (f 0).length := by simp [segN]
  rw [e2]
  have e4 : (out ++ f out.length ++ optW f false k (out.length + segN f false)).length = out.length + segN f false + (optW f false k 0).length := by rw [List.length_append, e2, ho.len]
  have e5 : (out ++ f out.length ++ optW f false k (out.length + segN f false) ++ [catNd u v]).length = out.length + segN f false + (optW f false k 0).length + 1 := by rw [List.length_append, e4]; rfl
  rw [e4, e5]
  rw [e2] at hv
  rw [optW_more hf false hk, catNd_eq (show u = out.length + segN f false - 1 by omega) (show v = out.length + segN f false + (optW f false k 0).length - 1 by omega)]
  simp [segW]
end Go.Proofs.Qxb6500283aGreat
