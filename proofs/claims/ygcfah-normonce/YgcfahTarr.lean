/- Arrays in memory; and the words of a node are few. -/
import Derived.Test.YgcfahTev
namespace Go.Proofs.Ygcfah
open Go.RowKit
set_option linter.unusedVariables false
set_option linter.unusedSimpArgs false
/-- m cells of the block g hold f 0, f 1, .. and may be written. -/
structure Arr (w : World) (g m : Nat) (f : Nat → Value) : Prop where
  c : ∀ k, k < m → w.cell? ⟨g, k, none⟩ = some (f k)
  z : ∀ k, k < m → w.frozen? ⟨g, k, none⟩ = false
theorem Arr.lt {w : World} {g m : Nat} {f : Nat → Value} (h : Arr w g m f) (hm : 0 < m) : g < w.heap.size := World.block_lt_of_cell? w ⟨g, 0, none⟩ (h.c 0 hm)
theorem Arr.set {w : World} {g m : Nat} {f : Nat → Value} (h : Arr w g m f) {k : Nat} (hk : k < m) (v : Value) : Arr (w.setCell ⟨g, k, none⟩ v) g m (putF f k v) := by
  refine ⟨fun x hx => ?_, fun x hx => by simpa using h.z x hx⟩
  by_cases hxk : x = k
  · subst hxk
    simp only [putF, if_true]
    exact World.cell?_setCell_same' _ _ _ (by rw [h.c x hx]; rfl)
  · simp only [putF, if_neg hxk]
    exact (World.cell?_setCell_other _ _ _ _ (by intro e; injection e; omega)).trans (h.c x hx)
theorem Arr.far {w : World} {g m : Nat} {f : Nat → Value} (h : Arr w g m f) {p : Addr} (hp : p.block ≠ g) (v : Value) : Arr (w.setCell p v) g m f := by
  refine ⟨fun x hx => ?_, fun x hx => by simpa using h.z x hx⟩
  exact (World.cell?_setCell_other _ _ _ _ (by intro e; rw [e] at hp; exact hp rfl)).trans (h.c x hx)
theorem Arr.below {w w' : World} {g m : Nat} {f : Nat → Value} (h : Arr w g m f) (hb : Below w.heap.size w w') : Arr w' g m f :=
  ⟨fun x hx => Below.kept hb (h.c x hx), fun x hx => (hb.frozen (World.block_lt_of_cell? w _ (h.c x hx))).trans (h.z x hx)⟩
theorem Arr.congr {w : World} {g m : Nat} {f f' : Nat → Value} (h : Arr w g m f) (e : ∀ k, k < m → f k = f' k) : Arr w g m f' :=
  ⟨fun x hx => (h.c x hx).trans (by rw [e x hx]), h.z⟩
def isZ8 : Option Value → Bool
  | some (.int .u8 x) => x == 0
  | _ => false
theorem isZ8_eq {o : Option Value} (h : isZ8 o = true) : o = some (.int .u8 0) := by
  unfold isZ8 at h
  split at h
  · simp at h; rw [h]
  · cases h
def isZB : Option Value → Bool
  | some (.bool false) => true
  | _ => false
theorem isZB_eq {o : Option Value} (h : isZB o = true) : o = some (.bool false) := by
  unfold isZB at h
  split at h
  · rfl
  · cases h
def isZ64 : Option Value → Bool
  | some (.int .u64 x) => x == 0
  | _ => false
theorem isZ64_eq {o : Option Value} (h : isZ64 o = true) : o = some (.int .u64 0) := by
  unfold isZ64 at h
  split at h
  · simp at h; rw [h]
  · cases h
theorem zc246' : (List.range 512).all (fun i => isZ8 Fahg.zeroCells246[i]?) = true := by kernel_rfl
theorem zc247' : (List.range 512).all (fun i => isZB Fahg.zeroCells247[i]?) = true := by kernel_rfl
theorem zc246 (k : Nat) (h : k < 512) : Fahg.zeroCells246[k]? = some (.int .u8 0) := isZ8_eq (List.all_eq_true.1 zc246' k (List.mem_range.2 h))
theorem zc247 (k : Nat) (h : k < 512) : Fahg.zeroCells247[k]? = some (.bool false) := isZB_eq (List.all_eq_true.1 zc247' k (List.mem_range.2 h))
theorem arr_new (w : World) (C : Array Value) (t : TypeId) (m : Nat) (f : Nat → Value) (h : ∀ k, k < m → C[k]? = some (f k)) : Arr (w.alloc (.cells C t)) w.heap.size m f := by
  refine ⟨fun k hk => ?_, fun k hk => ?_⟩
  · simp [go_sem]
    exact h k hk
  · simp [go_sem]
theorem Arr.alloc {w : World} {g m : Nat} {f : Nat → Value} (h : Arr w g m f) (o : Obj) : Arr (w.alloc o) g m f := h.below (below_alloc (Below.refl _ _) (Nat.le_refl _) o)
theorem wds_le {n : Nat} {nd : Nat → NodeC} (h : Tok n nd) {i : Nat} (hi : i < n) : wds nd i ≤ 2049 := by
  have hs := h.shp i hi
  have t1 := trimC_le 0 (nd i).dz (nd i).dL
  have t2 := trimC_le (-1) (nd i).kz (nd i).kL
  unfold wds
  unfold Shp at hs
  rcases hs with ⟨h1, h2, h3, h4⟩ | ⟨h1, h2, h3, h4 | h4 | h4⟩
  · rw [if_pos h1]; omega
  · rw [if_neg (by omega), if_neg (by omega), if_neg (by omega)]
    have : elW (nd i).code ≤ 8 := by unfold elW; split; omega; split; omega; split <;> omega
    have := Nat.mul_le_mul h2 this
    omega
  · rw [if_neg (by omega), if_pos h4.1]; omega
  · rw [if_neg (by omega), if_neg (by omega), if_pos h4.1]
    have := Nat.mul_le_mul h3 (evSum_le h hi h1 h4.1)
    omega
end Go.Proofs.Ygcfah
