/- The Ptr that law.plainWalk makes of a node. -/
import Derived.Test.YgcfahTow
namespace Go.Proofs.Ygcfah
open Go.RowKit
set_option linter.unusedVariables false
set_option linter.unusedSimpArgs false
structure Pc (w : World) (g : Nat) (k dt pt c m : Int) : Prop where
  c0 : w.cell? ⟨g, 0, none⟩ = some (.int .u8 k)
  c1 : w.cell? ⟨g, 1, none⟩ = some (.int .u16 0)
  c2 : w.cell? ⟨g, 2, none⟩ = some (.int .u8 dt)
  c3 : w.cell? ⟨g, 3, none⟩ = some (.int .u8 pt)
  c4 : w.cell? ⟨g, 4, none⟩ = some (.int .u8 c)
  c5 : w.cell? ⟨g, 5, none⟩ = some (.int .u16 m)
  f2 : w.frozen? ⟨g, 2, none⟩ = false
  f3 : w.frozen? ⟨g, 3, none⟩ = false
theorem Pc.below {w w' : World} {g : Nat} {k dt pt c m : Int} (h : Pc w g k dt pt c m) (hb : Below w.heap.size w w') : Pc w' g k dt pt c m :=
  ⟨Below.kept hb h.c0, Below.kept hb h.c1, Below.kept hb h.c2, Below.kept hb h.c3, Below.kept hb h.c4, Below.kept hb h.c5, (hb.frozen (World.block_lt_of_cell? w _ h.c2)).trans h.f2, (hb.frozen (World.block_lt_of_cell? w _ h.c3)).trans h.f3⟩
theorem Pc.set2 {w : World} {g : Nat} {k dt pt c m : Int} (h : Pc w g k dt pt c m) (x : Int) : Pc (w.setCell ⟨g, 2, none⟩ (.int .u8 x)) g k x pt c m := by
  refine ⟨?_, ?_, ?_, ?_, ?_, ?_, by simpa using h.f2, by simpa using h.f3⟩
  · exact (World.cell?_setCell_other _ _ _ _ (by intro e; injection e; omega)).trans h.c0
  · exact (World.cell?_setCell_other _ _ _ _ (by intro e; injection e; omega)).trans h.c1
  · exact World.cell?_setCell_same' _ _ _ (by rw [h.c2]; rfl)
  · exact (World.cell?_setCell_other _ _ _ _ (by intro e; injection e; omega)).trans h.c3
  · exact (World.cell?_setCell_other _ _ _ _ (by intro e; injection e; omega)).trans h.c4
  · exact (World.cell?_setCell_other _ _ _ _ (by intro e; injection e; omega)).trans h.c5
theorem Pc.set3 {w : World} {g : Nat} {k dt pt c m : Int} (h : Pc w g k dt pt c m) (x : Int) : Pc (w.setCell ⟨g, 3, none⟩ (.int .u8 x)) g k dt x c m := by
  refine ⟨?_, ?_, ?_, ?_, ?_, ?_, by simpa using h.f2, by simpa using h.f3⟩
  · exact (World.cell?_setCell_other _ _ _ _ (by intro e; injection e; omega)).trans h.c0
  · exact (World.cell?_setCell_other _ _ _ _ (by intro e; injection e; omega)).trans h.c1
  · exact (World.cell?_setCell_other _ _ _ _ (by intro e; injection e; omega)).trans h.c2
  · exact World.cell?_setCell_same' _ _ _ (by rw [h.c3]; rfl)
  · exact (World.cell?_setCell_other _ _ _ _ (by intro e; injection e; omega)).trans h.c4
  · exact (World.cell?_setCell_other _ _ _ _ (by intro e; injection e; omega)).trans h.c5
theorem pc_new (w : World) (k c m : Int) : Pc ((w.alloc (.cells #[.int .u8 k, .int .u16 0, .int .u8 0, .int .u8 0, .int .u8 c, .int .u16 m] 34)).drew) w.heap.size k 0 0 c m := by
  refine ⟨?_, ?_, ?_, ?_, ?_, ?_, ?_, ?_⟩ <;> simp [go_sem]
/-- What ownWords says of the Ptr of a node. -/
def OwnSays (nd : Nat → NodeC) (i : Nat) (dt pt : Int) : Prop :=
  ∀ w, Calls Fahg.prog 122 #[.agg #[.int .u8 (nd i).kind, .int .u16 0, .int .u8 dt, .int .u8 pt, .int .u8 (nd i).code, .int .u16 (((nd i).dL : Int) + (nd i).kL)]] w fun e w' => e = .returned (.int .i64 (ownW nd i : Nat)) ∧ Below w.heap.size w w'
theorem newBelow {w w' : World} (h : ∃ c nq, w' = (w.alloc (.cells c 34)).drewN nq) : Below w.heap.size w w' := by
  obtain ⟨c, nq, rfl⟩ := h
  exact below_drewN' (below_alloc (Below.refl _ _) (Nat.le_refl _) _) _
theorem says_struct {n : Nat} {nd : Nat → NodeC} (h : Tok n nd) {i : Nat} (hi : i < n) (h1 : (nd i).kind = 1) : OwnSays nd i (trimC 0 (nd i).dz (nd i).dL : Nat) (trimC (-1) (nd i).kz (nd i).kL : Nat) := by
  intro w
  have hs := h.shp i hi
  unfold Shp at hs
  have t1 := trimC_le 0 (nd i).dz (nd i).dL
  have t2 := trimC_le (-1) (nd i).kz (nd i).kL
  rw [h1]
  refine (own_struct _ _ _ _ (by omega) (by omega) (by omega) (by omega) w).mono ?_
  rintro e w' ⟨rfl, hw⟩
  refine ⟨ret_int ?_, newBelow hw⟩
  unfold ownW wds
  rw [if_pos h1]
  omega
theorem says_list {n : Nat} {nd : Nat → NodeC} (h : Tok n nd) {i : Nat} (hi : i < n) (h2 : (nd i).kind = 2) (h7 : (nd i).code ≠ 7) : OwnSays nd i 0 0 := by
  intro w
  have hs := h.shp i hi
  unfold Shp at hs
  rw [h2]
  rcases hs with hs | ⟨_, hd, hk, ⟨c0, c1, hk0, _⟩ | ⟨c6, hd0⟩ | hs⟩
  · omega
  · refine (own_list 0 0 (nd i).code _ (by omega) (by omega) (by omega) (by omega) c0 c1 (by omega) (by omega) w).mono ?_
    rintro e w' ⟨rfl, hw⟩
    refine ⟨ret_int ?_, newBelow hw⟩
    unfold ownW wds
    rw [if_neg (by omega), if_neg (by omega), if_neg (by omega)]
    have : (((nd i).dL : Int) + ((nd i).kL : Nat)) * (elW (nd i).code : Nat) = (((nd i).dL * elW (nd i).code : Nat) : Int) := by rw [hk0]; simp
    rw [this]
    have hw : elW (nd i).code ≤ 8 := by unfold elW; split; omega; split; omega; split <;> omega
    have := Nat.mul_le_mul hd hw
    omega
  · rw [c6]
    refine (own_ptrs 0 0 _ (by omega) (by omega) (by omega) (by omega) (by omega) (by omega) w).mono ?_
    rintro e w' ⟨rfl, hw⟩
    refine ⟨ret_int ?_, newBelow hw⟩
    unfold ownW wds
    rw [if_neg (by omega), if_pos c6]
    omega
  · omega
theorem says_structs {n : Nat} {nd : Nat → NodeC} (h : Tok n nd) {i : Nat} (hi : i < n) (h2 : (nd i).kind = 2) (h7 : (nd i).code = 7) : OwnSays nd i (ev2 nd i : Nat) (evP nd (nd i).kz (nd i).kL : Nat) := by
  intro w
  have hs := h.shp i hi
  unfold Shp at hs
  have hd0 : (nd i).dL = 0 := by omega
  have hk := (h.kl hi).1
  have l1 := evD_le nd (nd i).kz (nd i).kL 8 fun j hj => (h.el hi h2 h7 j hj).2.2.1
  have l2 := evP_le nd (nd i).kz (nd i).kL 8 fun j hj => (h.el hi h2 h7 j hj).2.2.2
  have l3 : ev2 nd i ≤ 8 := by unfold ev2; split <;> omega
  have hs := ev2_sum nd i
  have hm : (nd i).kL * evSum nd i ≤ 128 * 16 := Nat.mul_le_mul hk (by omega)
  rw [h2, h7]
  refine (own_structs _ _ _ ((nd i).kL * evSum nd i : Nat) (by show _ = _; rw [hd0, ← hs]; simp) (by omega) (by omega) (by omega) (by omega) (by omega) (by omega) (by omega) (by omega) w).mono ?_
  rintro e w' ⟨rfl, hw⟩
  refine ⟨ret_int ?_, newBelow hw⟩
  unfold ownW wds
  rw [if_neg (by omega), if_neg (by omega), if_pos h7]
  omega
end Go.Proofs.Ygcfah
