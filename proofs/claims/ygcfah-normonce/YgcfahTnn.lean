/- tree.Norm of the null message; what tree.Norm returns. -/
import Derived.Test.YgcfahTco
import Derived.Test.YgcfahTnl
namespace Go.Proofs.Ygcfah
open Go.RowKit
set_option linter.unusedVariables false
set_option linter.unusedSimpArgs false
/-- A new null tree. -/
inductive NullRes (w' : World) : Ending → Prop where
  | mk (ub : Nat) : w'.cell? ⟨ub, 0, none⟩ = some (.slice none 0 0) → w'.cell? ⟨ub, 1, none⟩ = some (.int .i16 (-1)) → NullRes w' (.returned (.pointer (some ⟨ub, 0, none⟩)))
/-- A new tree, the value of nd below r. -/
inductive NormRes (n : Nat) (nd : Nat → NodeC) (r : Nat) (w' : World) : Ending → Prop where
  | mk (ub vb m ucap : Nat) (nu : Nat → NodeC) (src : Nat → Nat) (el : Nat → Bool) : m ≤ 512 → 0 < m → NormOf n nd m nu src el → src 0 = r → el 0 = false → m = cnr nd r →
      w'.cell? ⟨ub, 0, none⟩ = some (.slice (some ⟨vb, 0, none⟩) m ucap) → w'.cell? ⟨ub, 1, none⟩ = some (.int .i16 0) → NCells w' vb 0 m nu → NormRes n nd r w' (.returned (.pointer (some ⟨ub, 0, none⟩)))
/-- What tree.Norm is to do. -/
def NormSays (tb b off n cap : Nat) (nd : Nat → NodeC) (r : Nat) : Prop :=
  ∀ w : World, w.cell? ⟨tb, 0, none⟩ = some (.slice (some ⟨b, off, none⟩) n cap) → w.cell? ⟨tb, 1, none⟩ = some (.int .i16 (r : Nat)) → NCells w b off n nd → CheckP n (r : Nat) nd →
    Calls Fahg.prog 25 #[.pointer (some ⟨tb, 0, none⟩)] w fun e w' => NormRes n nd r w' e ∧ Below w.heap.size w w'
set_option maxRecDepth 100000 in
set_option maxHeartbeats 2000000 in
/-- Of a tree that passes Check and has no root, or of one that does not pass it. -/
theorem norm_null (tb : Nat) (a : Value) (root : Int) (ck : Bool) (w : World) (ht2 : w.cell? ⟨tb, 1, none⟩ = some (.int .i16 root)) (hck : Calls Fahg.prog 23 #[.pointer (some ⟨tb, 0, none⟩)] w fun e w' => e = .returned (.bool ck) ∧ Below w.heap.size w w') (h : ck = false ∨ root = -1) :
    Calls Fahg.prog 25 #[.pointer (some ⟨tb, 0, none⟩)] w fun e w' => NullRes w' e ∧ Below w.heap.size w w' := by
  have HCK : Hid _ := hck
  clear hck
  cases ck
  · go_enter Fahg.func25, Fahg.ntmps25
    go_wp2_with fail
    refine Calls.mono HCK.out ?_
    rintro e w1 ⟨rfl, hb1⟩
    have HB1 : Hid _ := hb1
    clear hb1 h
    go_wp2_with fail
    refine bodyPost_ret (v := .pointer (some ⟨w1.heap.size, 0, none⟩)) (by simp [results, Fahg.results25]) rfl ⟨.mk _ (by simp [go_sem]) (by simp [go_sem]), below_alloc HB1.out (Nat.le_refl _) _⟩
  · have hroot : root = -1 := by simpa using h
    subst hroot
    go_enter Fahg.func25, Fahg.ntmps25
    go_wp2_with fail
    refine Calls.mono HCK.out ?_
    rintro e w1 ⟨rfl, hb1⟩
    have t2 := Below.kept hb1 ht2
    have HB1 : Hid _ := hb1
    clear hb1 h
    go_wp2_with fail
    refine bodyPost_ret (v := .pointer (some ⟨w1.heap.size, 0, none⟩)) (by simp [results, Fahg.results25]) rfl ⟨.mk _ (by simp [go_sem]) (by simp [go_sem]), below_alloc HB1.out (Nat.le_refl _) _⟩
end Go.Proofs.Ygcfah
