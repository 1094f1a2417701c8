/- Package wide's Resolve and the law's own wideResolve: both compute one plain function. -/
import Derived.Test.YgcfahWide
namespace Go.Proofs.Ygcfah
open Go.RowKit
set_option linter.unusedVariables false
attribute [local go_sem] setCell_drewN alloc_drewN

/-- wide.Ptr as numbers. -/
structure WP where
  kind : Int
  at_ : Int
  data : Int
  ptrs : Int
  code : Int
  count : Int
def WP.nul : WP := ⟨0, 0, 0, 0, 0, 0⟩
def WP.val (p : WP) : Value := .agg #[.int .u8 p.kind, .int .u16 p.at_, .int .u8 p.data, .int .u8 p.ptrs, .int .u8 p.code, .int .u32 p.count]
/-- The numbers fit their kinds. -/
structure WP.ok (p : WP) : Prop where
  k0 : 0 ≤ p.kind
  k1 : p.kind ≤ 255
  a0 : 0 ≤ p.at_
  a1 : p.at_ ≤ 65535
  d0 : 0 ≤ p.data
  d1 : p.data ≤ 255
  p0 : 0 ≤ p.ptrs
  p1 : p.ptrs ≤ 255
  c0 : 0 ≤ p.code
  c1 : p.code ≤ 255
  n0 : 0 ≤ p.count
  n1 : p.count ≤ 4294967295
def WP.words (p : WP) : Int := wWords p.kind p.data p.ptrs p.code p.count

/-- A row of words in memory: 'n' of them at ⟨b, off⟩. -/
def Row (w : World) (b off : Nat) (n : Int) (z : Int → Int) : Prop :=
  ∀ i : Int, 0 ≤ i → i < n → w.cell? ⟨b, off + i.toNat, none⟩ = some (.int .u64 (z i)) ∧ U64 (z i)

theorem bcell {W w1 : World} (hb : Below W.heap.size W w1) : (∀ b o, b < W.heap.size → w1.cell? ⟨b, o, none⟩ = W.cell? ⟨b, o, none⟩) ∧ (∀ b o, b < W.heap.size → w1.frozen? ⟨b, o, none⟩ = W.frozen? ⟨b, o, none⟩) :=
  ⟨fun b o h => hb.cell (p := ⟨b, o, none⟩) h, fun b o h => hb.frozen (p := ⟨b, o, none⟩) h⟩

/-- 'structs', where the words fit. -/
def stP (to t : Int) : WP := ⟨2, to + 1, secD t, secP t, 7, cnt30 t⟩
def stB (to t n : Int) : Bool := secOk t && decide (low2 t = 0) && decide ((stP to t).words = n + 1)

theorem secD_bd (x : Int) : 0 ≤ secD x ∧ secD x ≤ 8 := by
  have := mid16_bd x; unfold secD secOk; split
  · rename_i h; simp at h; omega
  · omega
theorem secP_bd (x : Int) (hx : U64 x) : 0 ≤ secP x ∧ secP x ≤ 8 := by
  have := top16_bd x hx; unfold secP secOk; split
  · rename_i h; simp at h; omega
  · omega

theorem structs_no (a0 : Option Addr) (len cap : Nat) (to n : Int) (h0 : -2147483648 ≤ to) (h1 : to ≤ 2147483647) (n0 : 0 ≤ n) (n1 : n ≤ 536870911)
    (hno : n > 256 ∨ spansB to (n + 1) len = false) (w : World) :
    Calls Fahg.prog 101 #[.slice a0 len cap, .int .i32 to, .int .u32 n] w fun e w' => e = .returned (.tuple #[WP.nul.val, .bool false]) ∧ Below w.heap.size w w' := by
  by_cases hn : n > 256
  · go_enter Fahg.func101, Fahg.ntmps101
    go_wp2_with fail
    refine bodyPost_ret (v := .tuple #[WP.nul.val, .bool false]) (by simp [results, Fahg.results101, go_sem, WP.nul, WP.val]) rfl ⟨rfl, ?_⟩
    exact (Below.refl _ _).alloc (Nat.le_refl _) _
  · have hs : spansB to (n + 1) len = false := by simpa [hn] using hno
    go_enter Fahg.func101, Fahg.ntmps101
    go_wp2_with fail
    refine (spans_any _ _ _ h0 h1 (by omega) (by omega) _).mono ?_; rintro e w' ⟨rfl, rfl⟩
    go_wp2_with fail
    refine bodyPost_ret (v := .tuple #[WP.nul.val, .bool false]) (by simp [results, Fahg.results101, go_sem, WP.nul, WP.val]) rfl ⟨rfl, ?_⟩
    exact (Below.refl _ _).alloc (Nat.le_refl _) _

def stR (to t n : Int) : WP := if stB to t n then stP to t else WP.nul
theorem ret_wp {p q : WP} {a b : Bool} (h : p = q) (h' : a = b) : Ending.returned (.tuple #[p.val, .bool a]) = .returned (.tuple #[q.val, .bool b]) := by rw [h, h']
theorem stR_no (to t n : Int) (h : stB to t n = false) : WP.nul = stR to t n := by simp [stR, h]
theorem stR_yes (to t n : Int) (h : stB to t n = true) : stP to t = stR to t n := by simp [stR, h]

theorem structs_yes (b off len cap : Nat) (to n t : Int) (n0 : 0 ≤ n) (hl : len ≤ 256) (h1 : 1 ≤ to) (h2 : to + (n + 1) ≤ len) (ht : U64 t) (w : World)
    (hc : w.cell? ⟨b, off + to.toNat, none⟩ = some (.int .u64 t)) :
    Calls Fahg.prog 101 #[.slice (some ⟨b, off, none⟩) len cap, .int .i32 to, .int .u32 n] w fun e w' => e = .returned (.tuple #[(stR to t n).val, .bool (stB to t n)]) ∧ Below w.heap.size w w' := by
  have hs : spansB to (n + 1) len = true := by unfold spansB; rw [if_neg (by omega)]; simp; omega
  have hb : b < w.heap.size := World.block_lt_of_cell? w ⟨b, off + to.toNat, none⟩ hc
  have HT : Hid (U64 t) := ht
  have b1 := cnt30_bd t
  have b2 := secD_bd t
  have b3 := secP_bd t ht
  have b4 := low2_bd t
  have b5 := wWords_bd 2 (secD t) (secP t) 7 (cnt30 t) b2.1 b3.1 b1.1
  clear ht
  go_enter Fahg.func101, Fahg.ntmps101
  go_wp2_with fail
  refine (spans_any _ _ _ (by omega) (by omega) (by omega) (by omega) _).mono ?_; rintro e w' ⟨rfl, rfl⟩
  go_wp2_with fail
  refine (take_2_30 _ HT.out _).mono ?_; rintro e w' ⟨rfl, rfl⟩
  go_wp2_with fail
  refine (sections_any _ HT.out _).mono ?_; rintro e w' ⟨rfl, rfl⟩
  go_wp2_with fail
  · refine (take_0_2 _ HT.out _).mono ?_; rintro e w' ⟨rfl, rfl⟩
    go_wp2_with fail
    · refine (words_any _ _ _ _ _ _ (by omega) (by omega) (by omega) (by omega) (by omega) (by omega) (by omega) (by omega) (by omega) (by omega) _).mono ?_; rintro e w1 ⟨rfl, c, nq, rfl⟩
      go_wp2_with fail
      · refine bodyPost_ret (v := .tuple #[WP.nul.val, .bool false]) (by simp [results, Fahg.results101, go_sem, WP.nul, WP.val]) rfl ⟨ret_wp (stR_no _ _ _ ?_) ?_, ?_⟩
        · simp_all [stB, WP.words, stP]
        · simp_all [stB, WP.words, stP]
        · repeat' (first | exact Below.refl _ _ | refine Below.setCell ?_ (by simp) _ | refine below_drewN' ?_ _ | refine Below.drew ?_ | refine below_alloc ?_ (Nat.le_refl _) _)
      · refine bodyPost_ret (v := .tuple #[(stP to t).val, .bool true]) (by simp [results, Fahg.results101, go_sem, stP, WP.val]) rfl ⟨ret_wp (stR_yes _ _ _ ?_) ?_, ?_⟩
        · simp_all [stB, WP.words, stP]
        · simp_all [stB, WP.words, stP]
        · repeat' (first | exact Below.refl _ _ | refine Below.setCell ?_ (by simp) _ | refine below_drewN' ?_ _ | refine Below.drew ?_ | refine below_alloc ?_ (Nat.le_refl _) _)
    · refine bodyPost_ret (v := .tuple #[WP.nul.val, .bool false]) (by simp [results, Fahg.results101, go_sem, WP.nul, WP.val]) rfl ⟨ret_wp (stR_no _ _ _ ?_) ?_, ?_⟩
      · simp_all [stB, WP.words, stP]
      · simp_all [stB, WP.words, stP]
      · repeat' (first | exact Below.refl _ _ | refine Below.setCell ?_ (by simp) _ | refine below_drewN' ?_ _ | refine Below.drew ?_ | refine below_alloc ?_ (Nat.le_refl _) _)
  · refine bodyPost_ret (v := .tuple #[WP.nul.val, .bool false]) (by simp [results, Fahg.results101, go_sem, WP.nul, WP.val]) rfl ⟨ret_wp (stR_no _ _ _ ?_) ?_, ?_⟩
    · simp_all [stB]
    · simp_all [stB]
    · repeat' (first | exact Below.refl _ _ | refine Below.setCell ?_ (by simp) _ | refine below_drewN' ?_ _ | refine Below.drew ?_ | refine below_alloc ?_ (Nat.le_refl _) _)

end Go.Proofs.Ygcfah
