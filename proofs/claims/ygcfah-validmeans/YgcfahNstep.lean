/- valid.Walk.Step. -/
import Derived.Test.YgcfahNclaim
import Derived.Test.YgcfahVis
namespace Go.Proofs.Ygcfah
open Go.RowKit
set_option linter.unusedVariables false
set_option linter.unusedSimpArgs false

def nodeN (z : Int → Int) (p : WP) : Node := { nodeOf z p with cost := 0 }
def resN (z : Int → Int) (size : Nat) (a : Nat) : Option (Option Node) :=
  if (rsn z size a).2 = false then none else if (rsn z size a).1.kind = 0 then some none else some (some (nodeN z (rsn z size a).1))
def up (st : Nat → Nat × Nat) : Nat → Nat × Nat := fun i => ((st i).1, (st i).2 + 1)
theorem up_pushF (st : Nat → Nat × Nat) (n0 : Nat) (f : Nat → Nat) (dep k : Nat) : up (pushF st n0 f dep k) = pushF (up st) n0 f (dep + 1) k := by
  funext j; unfold up pushF; split <;> rfl
structure NWlk (w : World) (g : Nat) (S : Nat → Bool) (st : Nat → Nat × Nat) (n : Nat) : Prop where
  s : ∃ s, Set4 w g 0 s ∧ Rep s S
  k : NStk w g st n
theorem NWlk.below {w w' : World} {g : Nat} {S : Nat → Bool} {n : Nat} {st : Nat → Nat × Nat} (h : NWlk w g S st n) (hb : Below w.heap.size w w') : NWlk w' g S st n := by
  obtain ⟨s, hs, hr⟩ := h.s
  exact ⟨⟨s, hs.below hb, hr⟩, h.k.below hb⟩
theorem NWlk.pop {w : World} {g : Nat} {S : Nat → Bool} {n : Nat} {st : Nat → Nat × Nat} (h : NWlk w g S st (n + 1)) : NWlk (w.setCell ⟨g, 516, none⟩ (.int .u16 n)) g S st n := by
  obtain ⟨s, hs, hr⟩ := h.s
  refine ⟨⟨s, ⟨fun q hq => (World.cell?_setCell_other _ _ _ _ (by intro e; injection e; omega)).trans (hs.c q hq), fun q hq => (by simp [go_sem] : _ = w.frozen? ⟨g, 0 + q, none⟩).trans (hs.f q hq)⟩, hr⟩,
    ⟨fun i hi => (World.cell?_setCell_other _ _ _ _ (by intro e; injection e; omega)).trans (h.k.at_ i hi), fun i hi => (World.cell?_setCell_other _ _ _ _ (by intro e; injection e; omega)).trans (h.k.dp i hi), fun j h1 h2 => by simp [go_sem, h.k.f j h1 h2], World.cell?_setCell_same' _ _ _ (by rw [h.k.n]; rfl)⟩⟩
theorem NWlk.claimed {w w' : World} {g : Nat} {S S' : Nat → Bool} {n : Nat} {st : Nat → Nat × Nat} (h : NWlk w g S st n) (hw : Within g 0 4 w w') (hs : ∃ s', Set4 w' g 0 s' ∧ Rep s' S') : NWlk w' g S' st n :=
  ⟨hs, ⟨fun i hi => (hw.cell _ (by omega)).trans (h.k.at_ i hi), fun i hi => (hw.cell _ (by omega)).trans (h.k.dp i hi), fun j h1 h2 => (hw.frozen _).trans (h.k.f j h1 h2), (hw.cell _ (by omega)).trans h.k.n⟩⟩
theorem NWlk.followed {w w' : World} {g : Nat} {S : Nat → Bool} {n n' : Nat} {st st' : Nat → Nat × Nat} (h : NWlk w g S st n) (hw : Within g 4 517 w w') (hk : NStk w' g st' n') : NWlk w' g S st' n' := by
  obtain ⟨s, hs, hr⟩ := h.s
  exact ⟨⟨s, ⟨fun q hq => (hw.cell _ (by omega)).trans (hs.c q hq), fun q hq => (hw.frozen _).trans (hs.f q hq)⟩, hr⟩, hk⟩
theorem ans_noN (res : Nat → Option (Option Node)) (S : Nat → Bool) (left a d : Nat) (st : List (Nat × Nat)) (nd : Node) (h : res a = some (some nd)) (hd : d ≤ 8) (hn : (free S nd.lo nd.n && nd.pad) = false) : ans res S left ((a, d) :: st) = false := by
  cases hp : nd.pad with
  | false => exact ans_pad res S left a d st nd h hp
  | true =>
    rw [ans_step res S left a d st nd h hd hp]
    rw [hp, Bool.and_true] at hn
    rw [hn, Bool.and_false, Bool.false_and]

/-- What a step leaves. -/
inductive StepPost (ANS : Bool) (z : Int → Int) (len g : Nat) (w : World) (S : Nat → Bool) (n : Nat) (e : Ending) (w' : World) : Prop
  | no : e = .returned (.bool false) → Off g w w' → ANS = false → StepPost ANS z len g w S n e w'
  | yes (n' : Nat) (S' : Nat → Bool) (st' : Nat → Nat × Nat) : e = .returned (.bool true) → Off g w w' → NWlk w' g S' st' n' → n' + cnt S' 256 < n + 1 + cnt S 256 → ans (resN z len) S' 0 (stkL (up st') n') = ANS → (∀ i, i < n' → (st' i).1 < len ∧ (st' i).2 ≤ 8) → StepPost ANS z len g w S n e w'

set_option maxRecDepth 100000 in
set_option maxHeartbeats 1000000 in
theorem step_x (ANS : Bool) (b off len cap : Nat) (z : Int → Int) (hl2 : len ≤ 256) (g : Nat) (w : World) (hz : Row w b off len z) (hb : b < w.heap.size) (hbg : b ≠ g) (S : Nat → Bool) (st : Nat → Nat × Nat) (n : Nat) (hW : NWlk w g S st (n + 1)) (hk : n + 1 + cnt S 256 ≤ 256)
    (HHH : Hid (ans (resN z len) S 0 (((st n).1, (st n).2 + 1) :: stkL (up st) n) = ANS)) (hI : ∀ i, i < n + 1 → (st i).1 < len ∧ (st i).2 ≤ 8) :
    Calls Fahg.prog 92 #[.pointer (some ⟨g, 0, none⟩), .slice (some ⟨b, off, none⟩) len cap] w fun e w' => StepPost ANS z len g w S n e w' := by
  have c1 := hW.k.n
  have f1 := hW.k.f 516 (by omega) (by omega)
  have hn : n < 256 := by omega
  have c2 := hW.k.at_ n hn
  have c3 := hW.k.dp n hn
  have i1 := hI n (by omega)
  have hG2 : g < w.heap.size := World.block_lt_of_cell? w ⟨g, 516, none⟩ c1
  have HW : Hid _ := hW
  have HI : Hid _ := hI
  have HZ : Hid _ := hz
  clear hW hI hz
  go_enter Fahg.func92, Fahg.ntmps92
  go_wp2_with fail
  go_region
  go_wp2_with fail
  have hO3 : Off g w ((w.setCell ⟨g, 516, none⟩ (.int .u16 n)).alloc (.cells #[.int .u16 (st n).1, .int .u8 (st n).2] 174)).drew := (((Off.refl g w).setCell rfl _).alloc _).drew
  have hRow := Row.off HZ.out hO3 hb hbg
  refine (nresolve_in b off len cap (st n).1 z (by omega) (by omega) hl2 _ hRow).mono ?_
  rintro e w3 ⟨rfl, hb3⟩
  have HO3 : Hid (Off g w w3) := hO3.trans (Off.of_below hb3)
  have hs3 : w.heap.size < w3.heap.size := by have := hb3.size; simp at this; omega
  have m3 : ∀ o, w3.cell? ⟨w.heap.size, o, none⟩ = #[.int .u16 (st n).1, .int .u8 (st n).2][o]? := fun o => (hb3.cell (p := ⟨w.heap.size, o, none⟩) (by simp)).trans (World.cell?_alloc_at _ _ _ _ (by simp))
  have W3 : NWlk w3 g S st n := ((HW.out.pop).below (Below.drew (below_alloc (Below.refl _ _) (Nat.le_refl _) _))).below hb3
  have hsh := nshape z len (st n).1 (by omega) (by omega) hl2 (fun i h h' => (HZ.out i h h').2)
  have hres : resN z len (st n).1 = if (rsn z len (st n).1).2 = false then none else if (rsn z len (st n).1).1.kind = 0 then some none else some (some (nodeN z (rsn z len (st n).1).1)) := rfl
  have HHA := HHH.out
  clear hb3 hO3 hRow c1 c2 c3 f1 HW HHH
  generalize rsn z len (st n).1 = r at *
  obtain ⟨p, ok⟩ := r
  cases ok with
  | false =>
    have ha : ANS = false := by rw [← HHA]; exact ans_refused _ _ _ _ _ _ (by simpa using hres)
    have HHa : Hid _ := ha
    obtain ⟨p1, p2, p3, p4, p5, p6⟩ := p
    clear hsh hres HHA ha W3
    simp only [WP.nval]
    go_wp2_with fail
    go_ret
    exact .no rfl (HO3.out.alloc _) HHa.out
  | true =>
    rcases hsh rfl with hnul | hshp
    · simp only at hnul
      subst hnul
      have ha : ans (resN z len) S 0 (stkL (up st) n) = ANS := by rw [← HHA]; exact (ans_null _ _ _ _ _ _ (by simpa [WP.nul] using hres)).symm
      have HHa : Hid _ := ha
      have HW3 : Hid _ := W3
      clear hsh hres HHA ha W3
      simp only [WP.nval, WP.nul]
      go_wp2_with fail
      go_ret
      exact .yes n S st rfl (HO3.out.alloc _) (HW3.out.below (below_alloc (Below.refl _ _) (Nat.le_refl _) _)) (by omega) HHa.out (fun i hi => HI.out i (by omega))
    · simp only at hshp
      have pk0 := (shape_ok hl2 hshp.s).2
      have hres2 : resN z len (st n).1 = some (some (nodeN z p)) := by simpa [pk0] using hres
      have hk0 : (p.kind == 0) = false := by simpa using pk0
      obtain ⟨p1, p2, p3, p4, p5, p6⟩ := p
      simp only at hk0
      have HSH : Hid _ := hshp
      have HRS : Hid _ := hres2
      have HW3 : Hid _ := W3
      have HHH : Hid _ := HHA
      have m0 := m3 0
      have m1 := m3 1
      simp only [show ∀ a b : Value, #[a, b][0]? = some a from fun _ _ => rfl, show ∀ a b : Value, #[a, b][1]? = some b from fun _ _ => rfl] at m0 m1
      clear hsh hres hres2 HHA W3 pk0 hshp m3
      simp only [WP.nval]
      by_cases hdp : 8 ≤ (st n).2
      · have ha : ANS = false := by rw [← HHH.out]; exact ans_deep _ _ _ _ _ _ _ HRS.out (by omega)
        have HHa : Hid _ := ha
        clear ha
        go_wp2_with fail
        go_ret
        exact .no rfl (HO3.out.alloc _) HHa.out
      · have hno := fun h => ans_noN _ S 0 _ ((st n).2 + 1) (stkL (up st) n) _ HRS.out (by omega) h
        have hyes := fun h => ans_step _ S 0 _ ((st n).2 + 1) (stkL (up st) n) _ HRS.out (by omega) h
        rw [HHH.out] at hno hyes
        have HNO : Hid _ := hno
        have HYES : Hid _ := hyes
        clear hno hyes
        have W4 := HW3.out.below (below_alloc (Below.refl _ _) (Nat.le_refl _) (.cells #[.int .u8 p1, .int .u16 p2, .int .u8 p3, .int .u8 p4, .int .u8 p5, .int .u16 p6] 34))
        obtain ⟨nl, nn, nb, nk, nm⟩ := shape_node z hl2 HSH.out.s
        go_wp2_with fail
        obtain ⟨s4, hs4, hr4⟩ := W4.s
        refine (nclaim_shape g z len hl2 _ HSH.out s4 S _ hs4 hr4).mono ?_
        rintro e w6 ⟨rfl, hW6, hj6⟩
        have HO6 : Hid (Off g w w6) := (HO3.out.alloc _).trans hW6.off
        have hs5 : w3.heap.size < (w3.alloc (.cells #[.int .u8 p1, .int .u16 p2, .int .u8 p3, .int .u8 p4, .int .u8 p5, .int .u16 p6] 34)).heap.size := by simp
        have m5 : ∀ o, w6.cell? ⟨w3.heap.size, o, none⟩ = #[.int .u8 p1, .int .u16 p2, .int .u8 p3, .int .u8 p4, .int .u8 p5, .int .u16 p6][o]? := fun o => (hW6.off.cell (by simp) (by omega)).trans (World.cell?_alloc_at _ _ _ _ rfl)
        have n6 : w6.cell? ⟨w.heap.size, 1, none⟩ = some (.int .u8 (st n).2) := (hW6.off.cell (by simp; omega) (by omega)).trans (by simp [go_sem, hs3, m1])
        have hs6 : w3.heap.size < w6.heap.size := by have := hW6.off.size; simp at this; omega
        cases hfree : free S (nodeOf z ⟨p1, p2, p3, p4, p5, p6⟩).lo (nodeOf z ⟨p1, p2, p3, p4, p5, p6⟩).n with
        | false =>
          have ha : ANS = false := HNO.out (by simp only [nodeN]; rw [hfree]; simp)
          have HHa : Hid _ := ha
          clear ha hW6 hj6 hfree nl nn nb nk nm hs4 hr4 W4
          go_wp2_with fail
          go_ret
          exact .no rfl (HO6.out) HHa.out
        | true =>
          have W6 := W4.claimed hW6 (hj6 hfree)
          have t1 := m5 0
          have t2 := m5 1
          have t3 := m5 2
          have t4 := m5 3
          have t5 := m5 4
          have t6 := m5 5
          simp only [one0, one1, one2, one3, one4, one5] at t1 t2 t3 t4 t5 t6
          have HW6 : Hid _ := W6
          have HF : Hid _ := hfree
          have HN : Hid _ := And.intro nb (And.intro nk nm)
          clear W6 W4 hW6 hj6 hfree nl nn nb nk nm hs4 hr4 m0 m1 m5
          go_wp2_with fail
          refine (npadded_shape b off len cap z _ HSH.out hl2 _ (Row.off HZ.out HO6.out hb hbg)).mono ?_
          rintro e w7 ⟨rfl, hb7⟩
          cases hpad : padB z ⟨p1, p2, p3, p4, p5, p6⟩ with
          | false =>
            have ha : ANS = false := HNO.out (by rw [show (nodeN z ⟨p1, p2, p3, p4, p5, p6⟩).pad = false from hpad]; simp)
            have HHa : Hid _ := ha
            have HO7 : Hid _ := HO6.out.trans (Off.of_below hb7)
            clear ha hb7 hpad
            go_wp2_with fail
            go_ret
            exact .no rfl (HO7.out) HHa.out
          | true =>
            have ha := HYES.out hpad
            simp only [nodeN] at ha
            rw [HF.out] at ha
            simp only [Nat.le_refl, decide_true, Bool.true_and] at ha
            have HHa : Hid _ := ha
            have W7 := HW6.out.below hb7
            have t1' := (hb7.cell (p := ⟨w3.heap.size, 0, none⟩) hs6).trans t1
            have t2' := (hb7.cell (p := ⟨w3.heap.size, 1, none⟩) hs6).trans t2
            have t3' := (hb7.cell (p := ⟨w3.heap.size, 2, none⟩) hs6).trans t3
            have t4' := (hb7.cell (p := ⟨w3.heap.size, 3, none⟩) hs6).trans t4
            have t5' := (hb7.cell (p := ⟨w3.heap.size, 4, none⟩) hs6).trans t5
            have t6' := (hb7.cell (p := ⟨w3.heap.size, 5, none⟩) hs6).trans t6
            have n7 := (hb7.cell (p := ⟨w.heap.size, 1, none⟩) (show w.heap.size < w6.heap.size by omega)).trans n6
            have HW7 : Hid _ := W7
            have HO7 : Hid _ := HO6.out.trans (Off.of_below hb7)
            clear ha W7 hb7 hpad t1 t2 t3 t4 t5 t6 n6 HO6 HW6
            have kc := cnt_join256 S _ _ HF.out (by have := HN.out.1; omega)
            have kn : kidN ⟨p1, p2, p3, p4, p5, p6⟩ ≤ (nodeOf z ⟨p1, p2, p3, p4, p5, p6⟩).n := by have := HN.out.2.1; simpa [nodeOf] using this
            have HKK : Hid (n + kidN ⟨p1, p2, p3, p4, p5, p6⟩ + cnt (join S (nodeOf z ⟨p1, p2, p3, p4, p5, p6⟩).lo (nodeOf z ⟨p1, p2, p3, p4, p5, p6⟩).n) 256 < n + 1 + cnt S 256) := by show _ < _; omega
            clear kc kn
            go_wp2_with fail
            refine (nfollow_shape g len _ HSH.out hl2 ((st n).2 + 1) n st w7 HW7.out.k (by have := HKK.out; omega) (by omega)).mono ?_
            rintro e w8 ⟨rfl, hW8, hS8⟩
            have HW8 : Hid _ := HW7.out.followed hW8 hS8
            have HO8 : Hid _ := HO7.out.trans hW8.off
            clear hW8 hS8 HW7 HO7
            go_wp2_with fail
            go_ret
            refine .yes _ _ _ rfl HO8.out HW8.out HKK.out ?_ ?_
            · rw [up_pushF, stkL_pushF]; exact HHa.out.symm
            · intro i hi
              by_cases hin : i < n
              · have : pushF st n (kidAt ⟨p1, p2, p3, p4, p5, p6⟩) ((st n).2 + 1) (kidN ⟨p1, p2, p3, p4, p5, p6⟩) i = st i := by unfold pushF; rw [if_neg (by omega)]
                rw [this]; exact HI.out i (by omega)
              · have : pushF st n (kidAt ⟨p1, p2, p3, p4, p5, p6⟩) ((st n).2 + 1) (kidN ⟨p1, p2, p3, p4, p5, p6⟩) i = (kidAt ⟨p1, p2, p3, p4, p5, p6⟩ (i - n), (st n).2 + 1) := by unfold pushF; rw [if_pos (by omega)]
                rw [this]
                exact ⟨HN.out.2.2 _ (by simp only [nodeOf, List.mem_map, List.mem_range]; exact ⟨i - n, by omega, rfl⟩), by simp only []; omega⟩
end Go.Proofs.Ygcfah
