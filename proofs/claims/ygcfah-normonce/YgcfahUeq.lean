/- tree.Equal. -/
import Derived.Test.YgcfahUal
import Derived.Test.YgcfahTmm
import Derived.BigRegion
import Derived.Deep.DeepCutAuto
namespace Go.Proofs.Ygcfah
open Go.RowKit
set_option linter.unusedVariables false
set_option linter.unusedSimpArgs false
theorem zc164' : (List.range 513).all (fun i => isZ16 Fahg.zeroCells164[i]?) = true := by kernel_rfl
theorem zc164 (k : Nat) (h : k < 513) : Fahg.zeroCells164[k]? = some (.int .i16 0) := isZ16_eq (List.all_eq_true.1 zc164' k (List.mem_range.2 h))
/-- The memory of tree.Equal. -/
structure EMem (w0 wr : World) (X Y : Nat) (l g : Nat → Nat) : Prop where
  bel : Below w0.heap.size w0 wr
  bX : w0.heap.size ≤ X
  bY : w0.heap.size ≤ Y
  ne : X ≠ Y
  aX : Arr wr X 513 (fun c => .int .i16 ((l c : Nat) : Int))
  aY : Arr wr Y 513 (fun c => .int .i16 ((g c : Nat) : Int))
theorem EMem.below {w0 wr wr' : World} {X Y : Nat} {l g : Nat → Nat} (h : EMem w0 wr X Y l g) (hb : Below wr.heap.size wr wr') : EMem w0 wr' X Y l g :=
  ⟨h.bel.trans (hb.mono h.bel.size), h.bX, h.bY, h.ne, h.aX.below hb, h.aY.below hb⟩
theorem EMem.setX {w0 wr : World} {X Y : Nat} {l g : Nat → Nat} (h : EMem w0 wr X Y l g) {x : Nat} (hx : x < 513) (z : Nat) : EMem w0 (wr.setCell ⟨X, x, none⟩ (.int .i16 ((z : Nat) : Int))) X Y (putF l x z) g := by
  refine ⟨h.bel.setCell h.bX _, h.bX, h.bY, h.ne, (h.aX.set hx _).congr fun k hk => ?_, h.aY.far h.ne _⟩
  unfold putF; split <;> rfl
theorem EMem.setY {w0 wr : World} {X Y : Nat} {l g : Nat → Nat} (h : EMem w0 wr X Y l g) {x : Nat} (hx : x < 513) (z : Nat) : EMem w0 (wr.setCell ⟨Y, x, none⟩ (.int .i16 ((z : Nat) : Int))) X Y l (putF g x z) := by
  refine ⟨h.bel.setCell h.bY _, h.bX, h.bY, h.ne, h.aX.far (fun e => h.ne e.symm) _, (h.aY.set hx _).congr fun k hk => ?_⟩
  unfold putF; split <;> rfl
noncomputable def eqWorld (w : World) : World := (w.alloc (.cells Fahg.zeroCells164 164)).alloc (.cells Fahg.zeroCells164 164)
theorem EMem.start (w0 w : World) (hb : Below w0.heap.size w0 w) : EMem w0 (eqWorld w) w.heap.size (w.heap.size + 1) (fun _ => 0) (fun _ => 0) := by
  have hsz := hb.size
  unfold eqWorld
  refine ⟨hb.trans (Below.mono (B := w.heap.size) (below_alloc (below_alloc (Below.refl _ _) (Nat.le_refl _) _) (Nat.le_refl _) _) hsz), by omega, by omega, by omega, ?_, ?_⟩
  · exact (arr_new w Fahg.zeroCells164 164 513 (fun _ => .int .i16 0) zc164).alloc _
  · have := arr_new (w.alloc (.cells Fahg.zeroCells164 164)) Fahg.zeroCells164 164 513 (fun _ => .int .i16 0) zc164
    rw [World.size_alloc] at this
    exact this
set_option maxRecDepth 100000 in
set_option maxHeartbeats 1000000 in
theorem equal_no (ta tb : Nat) (w : World) (hck : Calls Fahg.prog 23 #[.pointer (some ⟨ta, 0, none⟩)] w fun e w' => e = .returned (.bool false) ∧ Below w.heap.size w w') :
    Calls Fahg.prog 26 #[.pointer (some ⟨ta, 0, none⟩), .pointer (some ⟨tb, 0, none⟩)] w fun e w' => e = .returned (.bool false) ∧ Below w.heap.size w w' := by
  have HC : Hid _ := hck
  clear hck
  go_enter Fahg.func26, Fahg.ntmps26
  go_wp2_with fail
  refine Calls.mono HC.out ?_
  rintro e w1 ⟨rfl, hb1⟩
  have HB1 : Hid _ := hb1
  clear hb1
  go_wp2_with fail
  go_ret
  exact ⟨rfl, HB1.out⟩
set_option maxRecDepth 100000 in
set_option maxHeartbeats 4000000 in
theorem equal_null (ta tb : Nat) (w : World) (a1 : w.cell? ⟨ta, 1, none⟩ = some (.int .i16 (-1))) (b1 : w.cell? ⟨tb, 1, none⟩ = some (.int .i16 (-1)))
    (hca : Calls Fahg.prog 23 #[.pointer (some ⟨ta, 0, none⟩)] w fun e w' => e = .returned (.bool true) ∧ Below w.heap.size w w')
    (hcb : ∀ w1, Below w.heap.size w w1 → Calls Fahg.prog 23 #[.pointer (some ⟨tb, 0, none⟩)] w1 fun e w' => e = .returned (.bool true) ∧ Below w1.heap.size w1 w') :
    Calls Fahg.prog 26 #[.pointer (some ⟨ta, 0, none⟩), .pointer (some ⟨tb, 0, none⟩)] w fun e w' => e = .returned (.bool true) ∧ Below w.heap.size w w' := by
  have HCA : Hid _ := hca
  have HCB : Hid _ := hcb
  clear hca hcb
  go_enter Fahg.func26, Fahg.ntmps26
  go_wp2_with fail
  refine Calls.mono HCA.out ?_
  rintro e w1 ⟨rfl, hb1⟩
  have HB1 : Hid _ := hb1
  clear hb1
  go_wp2_with fail
  refine Calls.mono (HCB.out w1 HB1.out) ?_
  rintro e w2 ⟨rfl, hb2⟩
  have HB2 : Hid (Below w.heap.size w w2) := HB1.out.trans (hb2.mono HB1.out.size)
  clear hb2
  have HST : Hid _ := EMem.start w w2 HB2.out
  have HNW : Hid (eqWorld w2 = (w2.alloc (.cells Fahg.zeroCells164 164)).alloc (.cells Fahg.zeroCells164 164)) := rfl
  go_upto_region 4 with fail
  rw [← HNW.out]
  generalize eqWorld w2 = w3 at *
  generalize w2.heap.size = X at *
  obtain ⟨Y, hY⟩ : ∃ Y, Y = X + 1 := ⟨_, rfl⟩
  rw [← hY] at HST ⊢
  have t0 := Below.kept HST.out.bel a1
  have t1 := Below.kept HST.out.bel b1
  have x0 := HST.out.aX.c 0 (by omega)
  have x1 := HST.out.aX.z 0 (by omega)
  have x2 := HST.out.aY.c 0 (by omega)
  have x3 := HST.out.aY.z 0 (by omega)
  have hne := HST.out.ne
  have htX : ta ≠ X := by have := HST.out.bX; have h1 : ta < w.heap.size := World.block_lt_of_cell? w _ a1; omega
  have htY : ta ≠ Y := by have := HST.out.bY; have h1 : ta < w.heap.size := World.block_lt_of_cell? w _ a1; omega
  have hbX : tb ≠ X := by have := HST.out.bX; have h1 : tb < w.heap.size := World.block_lt_of_cell? w _ b1; omega
  have hbY : tb ≠ Y := by have := HST.out.bY; have h1 : tb < w.heap.size := World.block_lt_of_cell? w _ b1; omega
  clear hY HNW
  go_cut [3] (fun Z wc => Hid (Below w.heap.size w wc) ∧ wc.cell? ⟨X, 0, none⟩ = some (.int .i16 (-1)) ∧ wc.cell? ⟨Y, 0, none⟩ = some (.int .i16 (-1)))
  case first =>
    as_aux_lemma =>
      go_region
      all_goals go_wp2_with fail
      all_goals go_meet
      all_goals first
        | exact ⟨((HST.out.bel.setCell HST.out.bX _).setCell HST.out.bY _).drew, (((HST.out.aX.set (k := 0) (by omega) (.int .i16 (-1))).far (p := ⟨Y, 0, none⟩) (fun e => hne e.symm) (.int .i16 (-1))).below (Below.drew (Below.refl _ _))).c 0 (by omega), (((HST.out.aY.far (p := ⟨X, 0, none⟩) hne (.int .i16 (-1))).set (k := 0) (by omega) (.int .i16 (-1))).below (Below.drew (Below.refl _ _))).c 0 (by omega)⟩
        | exact ⟨((HST.out.bel.setCell HST.out.bY _).setCell HST.out.bX _).drew, (((HST.out.aX.far (p := ⟨Y, 0, none⟩) (fun e => hne e.symm) (.int .i16 (-1))).set (k := 0) (by omega) (.int .i16 (-1))).below (Below.drew (Below.refl _ _))).c 0 (by omega), (((HST.out.aY.set (k := 0) (by omega) (.int .i16 (-1))).far (p := ⟨X, 0, none⟩) hne (.int .i16 (-1))).below (Below.drew (Below.refl _ _))).c 0 (by omega)⟩
  as_aux_lemma =>
    obtain ⟨HB3, z0, z1⟩ := hcut
    clear HST t0 t1 x0 x1 x2 x3
    go_wp2_with fail
    go_loopg [7, 8] 1 (fun k I V wr => ∃ i : Nat, i + k = 1 ∧ I = .int .i64 ((i : Nat) : Int) ∧ V = .int .i64 1 ∧ Hid (Below w.heap.size w wr) ∧ wr.cell? ⟨X, 0, none⟩ = some (.int .i16 (-1)) ∧ wr.cell? ⟨Y, 0, none⟩ = some (.int .i16 (-1)))
    case atStart => exact ⟨0, by omega, rfl, rfl, HB3, z0, z1⟩
    clear HB3 z0 z1
    obtain ⟨i, hik, rfl, rfl, HB4, z0, z1⟩ := hrel
    by_cases hi : i = 0
    · subst hi
      as_aux_lemma =>
        go_wp2_with fail
        go_quiet (fail)
        have HB5 : Hid (Below w.heap.size w (wr.drewN nq)) := below_drewN' HB4.out nq
        have z2 : (wr.drewN nq).cell? ⟨X, 0, none⟩ = some (.int .i16 (-1)) := z0
        have z3 : (wr.drewN nq).cell? ⟨Y, 0, none⟩ = some (.int .i16 (-1)) := z1
        generalize wr.drewN nq = w5 at *
        clear z0 z1
        go_wp2_with fail
        go_roundg 0
        case rel => exact ⟨1, by omega, by simp, rfl, HB5, z2, z3⟩
        case measure => omega
    · have hi1 : i = 1 := by omega
      subst hi1
      as_aux_lemma =>
        go_wp2_with fail
        go_ret
        exact ⟨rfl, HB4.out⟩
set_option maxRecDepth 100000 in
set_option maxHeartbeats 16000000 in
theorem equal_main (ta ba oa nA cA tb bb ob nB cB rA rB : Nat) (A B : Nat → NodeC) (f : Nat → Nat) (S : Nat → Prop) (w : World)
    (a0 : w.cell? ⟨ta, 0, none⟩ = some (.slice (some ⟨ba, oa, none⟩) nA cA)) (a1 : w.cell? ⟨ta, 1, none⟩ = some (.int .i16 ((rA : Nat) : Int))) (hA : NCells w ba oa nA A) (b0 : w.cell? ⟨tb, 0, none⟩ = some (.slice (some ⟨bb, ob, none⟩) nB cB)) (b1 : w.cell? ⟨tb, 1, none⟩ = some (.int .i16 ((rB : Nat) : Int))) (hB : NCells w bb ob nB B)
    (hCA : CheckP nA ((rA : Nat) : Int) A) (hCB : CheckP nB ((rB : Nat) : Int) B) (hM : Sim nA A nB B f S) (hS : S rA) (hf : f rA = rB) :
    Calls Fahg.prog 26 #[.pointer (some ⟨ta, 0, none⟩), .pointer (some ⟨tb, 0, none⟩)] w fun e w' => e = .returned (.bool true) ∧ Below w.heap.size w w' := by
  have hTA : Tok nA A := ⟨fun x hx => (hCA.2.1 x hx).1, fun x hx => (hCA.2.1 x hx).2⟩
  have hTB : Tok nB B := ⟨fun x hx => (hCB.2.1 x hx).1, fun x hx => (hCB.2.1 x hx).2⟩
  have hnA := hCA.1.1
  have hnB := hCB.1.1
  have hrA : rA < nA := hM.la _ hS
  have hpw : pwr A rA 1 false < 1000 := by
    rcases hCA.2.2.2 with h | h
    · omega
    · rw [Int.toNat_natCast] at h; omega
  obtain ⟨CR, hCR⟩ : ∃ CR, CR = cnr A rA := ⟨_, rfl⟩
  have hCn : CR ≤ nA := by rw [hCR]; exact cn_root_le hCA.2.2.1 hTA hrA hpw
  have hca := check_main ta ba oa nA cA ((rA : Nat) : Int) A w a0 a1 hA hCA.1
  rw [pB_true hCA] at hca
  have hcb := fun (w1 : World) (hw : Below w.heap.size w w1) => check_main tb bb ob nB cB ((rB : Nat) : Int) B w1 (Below.kept hw b0) (Below.kept hw b1) (NCells.below hB hw) hCB.1
  rw [pB_true hCB] at hcb
  have HCA : Hid _ := hca
  have HCB : Hid _ := hcb
  have HA : Hid (NCells w ba oa nA A) := hA
  have HB : Hid (NCells w bb ob nB B) := hB
  have HTA : Hid (Tok nA A) := hTA
  have HTB : Hid (Tok nB B) := hTB
  have HM : Hid (Sim nA A nB B f S) := hM
  have HE0 : Hid (∀ l g : Nat → Nat, l 0 = rA → g 0 = rB → EO A CR 0 1 l g f S) := fun l g h1 h2 => EO.start hS hCR h1 (by rw [h2, hf]) hpw
  clear hca hcb hA hB hTA hTB hM hCA hCB hS hf hCR hpw hrA
  go_enter Fahg.func26, Fahg.ntmps26
  go_wp2_with fail
  refine Calls.mono HCA.out ?_
  rintro e w1 ⟨rfl, hb1⟩
  have HB1 : Hid _ := hb1
  clear hb1
  go_wp2_with fail
  refine Calls.mono (HCB.out w1 HB1.out) ?_
  rintro e w2 ⟨rfl, hb2⟩
  have HB2 : Hid (Below w.heap.size w w2) := HB1.out.trans (hb2.mono HB1.out.size)
  clear hb2 HCA HCB
  have HST : Hid _ := EMem.start w w2 HB2.out
  have HNW : Hid (eqWorld w2 = (w2.alloc (.cells Fahg.zeroCells164 164)).alloc (.cells Fahg.zeroCells164 164)) := rfl
  go_upto_region 4 with fail
  rw [← HNW.out]
  generalize eqWorld w2 = w3 at *
  generalize w2.heap.size = X at *
  obtain ⟨Y, hY⟩ : ∃ Y, Y = X + 1 := ⟨_, rfl⟩
  rw [← hY] at HST ⊢
  have t0 := Below.kept HST.out.bel a1
  have t1 := Below.kept HST.out.bel b1
  have x0 := HST.out.aX.c 0 (by omega)
  have x1 := HST.out.aX.z 0 (by omega)
  have x2 := HST.out.aY.c 0 (by omega)
  have x3 := HST.out.aY.z 0 (by omega)
  have hne := HST.out.ne
  have htX : ta ≠ X := by have := HST.out.bX; have h1 : ta < w.heap.size := World.block_lt_of_cell? w _ a1; omega
  have htY : ta ≠ Y := by have := HST.out.bY; have h1 : ta < w.heap.size := World.block_lt_of_cell? w _ a1; omega
  have hbX : tb ≠ X := by have := HST.out.bX; have h1 : tb < w.heap.size := World.block_lt_of_cell? w _ b1; omega
  have hbY : tb ≠ Y := by have := HST.out.bY; have h1 : tb < w.heap.size := World.block_lt_of_cell? w _ b1; omega
  clear hY HNW
  go_cut [3] (fun Z wc => Hid (EMem w wc X Y (putF (fun _ => 0) 0 rA) (putF (fun _ => 0) 0 rB)))
  case first =>
    as_aux_lemma =>
      --[A1
      go_region
      all_goals go_wp2_with fail
      all_goals go_meet
      all_goals first
        | exact ((HST.out.setX (by omega) _).setY (by omega) _).below (Below.drew (Below.refl _ _))
        | exact ((HST.out.setY (by omega) _).setX (by omega) _).below (Below.drew (Below.refl _ _))
      --]
  as_aux_lemma =>
    have HM0 := hcut
    clear hcut HST t0 t1 x0 x1 x2 x3
    have HO0 : Hid _ := HE0.out (putF (fun _ => 0) 0 rA) (putF (fun _ => 0) 0 rB) rfl rfl
    clear HE0
    go_wp2_with fail
    go_loopg [7, 8] CR (fun k I V wr => ∃ (i N : Nat) (l g : Nat → Nat), i + k = CR ∧ I = .int .i64 ((i : Nat) : Int) ∧ V = .int .i64 ((N : Nat) : Int) ∧ Hid (EMem w wr X Y l g) ∧ Hid (EO A CR i N l g f S))
    case atStart => exact ⟨0, 1, _, _, by omega, rfl, rfl, HM0, HO0⟩
    clear HM0 HO0
    obtain ⟨i, N, l, g, hik, rfl, rfl, HM1, HO⟩ := hrel
    have hNC := HO.out.lt HTA.out HM.out.la
    by_cases hiN : i < N
    case neg =>
      as_aux_lemma =>
        go_wp2_with fail
        go_ret
        exact ⟨rfl, HM1.out.bel⟩
    as_aux_lemma =>
      have hs := HO.out.s i hiN
      have HEI : Hid (EI A CR i 0 N l g f S (l i)) := EI.start HO.out HTA.out HM.out.la hiN
      have x0 := HM1.out.aX.c i (by omega)
      have x1 := HM1.out.aY.c i (by omega)
      rw [hs.2] at x1
      have hSp := hs.1
      obtain ⟨p, hp⟩ : ∃ p, p = l i := ⟨_, rfl⟩
      rw [← hp] at HEI hSp x0 x1
      obtain ⟨p2, hp2⟩ : ∃ p2, p2 = f p := ⟨_, rfl⟩
      rw [← hp2] at x1
      have hpn := HM.out.la p hSp
      have hpn2 : p2 < nB := by rw [hp2]; exact HM.out.lt p hSp
      have HSp : Hid _ := hSp
      have HP2 : Hid _ := hp2
      have hp1 : ((p : Int) == -1) = false := by simp
      have hp3 : ((p2 : Int) == -1) = false := by simp
      clear hs hSp hp hp2 HO
      go_wp2_with fail
      go_quiet (fail)
      have HM2 : Hid _ := HM1.out.below (wr' := wr.drewN nq) (below_drewN' (Below.refl _ _) nq)
      generalize wr.drewN nq = w4 at *
      clear HM1 x0 x1
      have y0 := Below.kept HM2.out.bel a0
      have y1 := Below.kept HM2.out.bel b0
      obtain ⟨_, m1, m2, m3, m4⟩ := NCells.below HA.out HM2.out.bel p hpn
      obtain ⟨_, k1, k2, k3, k4⟩ := NCells.below HB.out HM2.out.bel p2 hpn2
      go_wp2_with fail
      go_quiet (fail)
      have HM3 : Hid _ := HM2.out.below (wr' := w4.drewN nq) (below_drewN' (Below.refl _ _) nq)
      generalize w4.drewN nq = w5 at *
      clear HM2 y0 y1 m1 m2 m3 m4 k1 k2 k3 k4
      obtain ⟨q0, m1, m2, m3, m4⟩ := NCells.below HA.out HM3.out.bel p hpn
      obtain ⟨r0, k1, k2, k3, k4⟩ := NCells.below HB.out HM3.out.bel p2 hpn2
      have hpl := HTA.out.kl hpn
      have HAL : Hid (Calls Fahg.prog 85 #[.pointer (some ⟨ba, oa + p * 4, none⟩), .pointer (some ⟨bb, ob + p2 * 4, none⟩)] w5 fun e w' => e = .returned (.bool true) ∧ Below w5.heap.size w5 w') := by
        have e := HP2.out
        have s1 := HM.out.kind p HSp.out
        have s2 := HM.out.code p HSp.out
        have s3 := HM.out.dl p HSp.out
        have s4 := HM.out.kl p HSp.out
        have s5 := HM.out.dz p HSp.out
        rw [← e] at s1 s2 s3 s4 s5
        rw [s1] at k1
        rw [s2] at k2
        rw [s3] at k3
        rw [s4] at k4
        have r1 := r0.d
        rw [s3] at r1
        exact alike_any ba (oa + p * 4) bb (ob + p2 * 4) (A p).kind (A p).code _ _ _ _ _ _ _ _ _ _ (A p).dz (B p2).dz w5 m1 m2 m3 m4 k1 k2 k3 k4 q0.d r1 hpl.2 s5
      clear q0 r0 k1 k2 k3 k4 m2 m3
      go_wp2_with fail
      refine Calls.mono HAL.out ?_
      rintro e w6 ⟨rfl, hb6⟩
      have HM4 : Hid _ := HM3.out.below hb6
      clear hb6 HAL HM3 m1 m4
      obtain ⟨_, m1, m2, m3, m4⟩ := NCells.below HA.out HM4.out.bel p hpn
      clear m2 m3
      go_wp2_with fail
      go_loopg [8, 73] (A p).kL (fun k V J wx => ∃ (j N : Nat) (l g : Nat → Nat), j + k = (A p).kL ∧ J = .int .i64 ((j : Nat) : Int) ∧ V = .int .i64 ((N : Nat) : Int) ∧ Hid (EMem w wx X Y l g) ∧ Hid (EI A CR i j N l g f S p))
      case atStart => exact ⟨0, N, l, g, by omega, rfl, rfl, HM4, HEI⟩
      clear HM4 HEI m1 m4 hiN hNC
      obtain ⟨j, N2, l2, g2, hjk, rfl, rfl, HM5, HE5⟩ := hrel
      have hi2 := HE5.out.iN
      by_cases hjl : j < (A p).kL
      case neg =>
        as_aux_lemma =>
          --[A2
          have hjE : j = (A p).kL := by omega
          have HO2 : Hid (EO A CR (i + 1) N2 l2 g2 f S) := by have := HE5.out; rw [hjE] at this; exact this.done
          have hN2 := HO2.out.lt HTA.out HM.out.la
          clear hjE
          go_wp2_with fail
          go_roundg (CR - (i + 1))
          case rel => exact ⟨i + 1, N2, l2, g2, by omega, by simp, rfl, HM5, HO2⟩
          case measure => omega
          --]
      as_aux_lemma =>
        obtain ⟨_, _, _, _, m4⟩ := NCells.below HA.out HM5.out.bel p hpn
        obtain ⟨_, _, _, _, k4⟩ := NCells.below HB.out HM5.out.bel p2 hpn2
        obtain ⟨q0, _, _, _, q4⟩ := HA.out p hpn
        obtain ⟨r0, _, _, _, r4⟩ := HB.out p2 hpn2
        have l1 : ba < w.heap.size := World.block_lt_of_cell? w _ q4
        have l2' : bb < w.heap.size := World.block_lt_of_cell? w _ r4
        clear q4 r4
        have hkl2 : (B p2).kL = (A p).kL := by rw [HP2.out]; exact HM.out.kl p HSp.out
        have hjl2 : j < (B p2).kL := by omega
        rcases q0.i with h0 | ⟨bx, ox, e1, hc1⟩
        · omega
        rcases r0.i with h0 | ⟨by', oy, e2, hc2⟩
        · omega
        have l3 : bx < w.heap.size := World.block_lt_of_cell? w _ (hc1 j hjl).1
        have l4 : by' < w.heap.size := World.block_lt_of_cell? w _ (hc2 j hjl2).1
        have c1 := Below.kept HM5.out.bel (hc1 j hjl).1
        have c2 := Below.kept HM5.out.bel (hc2 j hjl2).1
        rw [e1] at m4
        rw [e2] at k4
        clear q0 r0 hc1 hc2 e1 e2
        by_cases hm : (A p).kz j = -1
        · as_aux_lemma =>
            --[A3
            have hm2 : (B p2).kz j = -1 := by rw [HP2.out]; exact HM.out.nul p HSp.out j hjl hm
            have HE6 : Hid _ := HE5.out.null hm
            rw [hm] at c1
            rw [hm2] at c2
            clear hm hm2
            go_wp2_with fail
            go_roundg (gk - 1)
            case rel => exact ⟨j + 1, N2, l2, g2, by omega, by simp, rfl, HM5, HE6⟩
            case measure => omega
            --]
        as_aux_lemma =>
          --[A4
          have hkid := HTA.out.kid hpn hjl hm
          obtain ⟨z, hz⟩ : ∃ z : Nat, (A p).kz j = (z : Nat) := ⟨_, hkid.2.2.symm⟩
          have hk2 := (HM.out.kid p HSp.out j hjl hm).2
          rw [← HP2.out, hz, Int.toNat_natCast] at hk2
          have HE6 : Hid _ := HE5.out.push HTA.out HM.out hjl hm hz
          have hNC : N2 < 512 := by have := HE5.out.lt HTA.out HM.out.la hjl hm; omega
          rw [hz] at c1
          rw [hk2] at c2
          obtain ⟨z2, hz2⟩ : ∃ z2, z2 = f z := ⟨_, rfl⟩
          rw [← hz2] at c2 HE6
          have d1 : ((z : Int) == -1) = false := by simp
          have d2 : ((z2 : Int) == -1) = false := by simp
          have x0 := HM5.out.aX.c N2 (by omega)
          have x1 := HM5.out.aX.z N2 (by omega)
          have x2 := HM5.out.aY.c N2 (by omega)
          have x3 := HM5.out.aY.z N2 (by omega)
          have hXb := HM5.out.bX
          have hYb := HM5.out.bY
          have hn1 : bx ≠ X := by omega
          have hn2 : bx ≠ Y := by omega
          have hn3 : by' ≠ X := by omega
          have hn4 : by' ≠ Y := by omega
          have hn5 : ba ≠ X := by omega
          have hn6 : ba ≠ Y := by omega
          have hn7 : bb ≠ X := by omega
          have hn8 : bb ≠ Y := by omega
          have i0 : (0 : Int) ≤ ((N2 : Nat) : Int) := by omega
          have i1 : ((N2 : Nat) : Int) < 513 := by omega
          clear hXb hYb l1 l2' l3 l4
          clear hm hz hkid hk2 hz2
          go_wp2_with fail
          go_region
          all_goals go_wp2_with fail
          go_roundg (gk - 1)
          case rel =>
            refine ⟨j + 1, N2 + 1, putF l2 N2 z, putF g2 N2 z2, by omega, by simp, by simp, ?_, HE6⟩
            first
              | exact ((HM5.out.setX (by omega) _).setY (by omega) _).below (Below.drew (Below.refl _ _))
              | exact ((HM5.out.setY (by omega) _).setX (by omega) _).below (Below.drew (Below.refl _ _))
          case measure => omega
          --]
end Go.Proofs.Ygcfah
