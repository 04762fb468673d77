/- FnFit: no spare that serves is shorter than the best, or as short and ahead of it; the best serves alone. -/
import Derived.Test.YthbkimojbbkeiaaLawD
import Derived.Test.YthbkimojbbkeiaaSpDr5
import Derived.Deep.RegionHeld3
namespace Go.Proofs.Ythbkimojbbkeiaa.fnFit
open Go.ChangeShapes Go.WideShapes Go.ChangeAt Go.RowKit
set_option linter.unusedVariables false

theorem below1 (w : World) (x : Int) : Below w.heap.size w (w.alloc (.cells #[.int .i64 x] 3)) := (Below.refl _ w).alloc (Nat.le_refl _) _
theorem sl_one (w : World) (x : Int) : Sl (w.alloc (.cells #[.int .i64 x] 3)) (w.heap.size + 1) (.slice (some ⟨w.heap.size, 0, none⟩) 1 1) [x] := by
  have r0 := Row.new w #[.int .i64 x] 3
  refine ⟨_, _, _, rfl, rfl, by omega, by omega, by omega, fun _ => ⟨_, 0, rfl, by omega, fun j hj => ?_⟩⟩
  obtain rfl : j = 0 := by omega
  rw [Nat.add_zero, r0.cell]; rfl
theorem step_call2g {ops : Array Oper} {o : Oper} {a : Act} {K : Act → World → Prop} {Q : Exit → Act → World → Prop} {E : Prop} {w : World} {ts : Array TypeId} {v1 v2 : Value} (F : FuncId) (x y : Operand) (hent : ∀ args W, Sem.run Try.prog (callFunc F args) W = .ok (.enter F args) W) (hw : Region.wanted o (yielded ops a.tmps) = true)
    (ho : o.op = .call { callee := .value (.func F), args := #[x, y], argTypes := ts }) (hx : a.eval x = v1) (hy : a.eval y = v2)
    (h : Calls Try.prog F #[v1, v2] w fun e w' => ∃ v, e = .returned v ∧ K (a.put o.dst v) w') :
    if Region.wanted o (yielded ops a.tmps) = true then Oper.wp Try.prog o a w K Q else E := by
  rw [if_pos hw]
  have hrun : (execOp a.eval o).run Try.prog w = .ok (.enter F #[v1, v2]) w := by
    have hf : a.eval (Operand.func F) = .func (.func F) #[] #[] := rfl
    simp [execOp, ho, resolve, invoke, Deferred.ofValue, hx, hy, hf, hent]
  unfold Oper.wp
  rw [hrun]
  refine h.mono ?_
  rintro e w' ⟨v, rfl, hk⟩
  exact hk
theorem keep4 {W wq w1 : World} {a b c d : Addr} {x y z u : Value} (h : wq.cell? a = some x ∧ wq.cell? b = some y ∧ wq.cell? c = some z ∧ wq.cell? d = some u ∧ Below W.heap.size W wq) (hb : Below wq.heap.size wq w1) :
    w1.cell? a = some x ∧ w1.cell? b = some y ∧ w1.cell? c = some z ∧ w1.cell? d = some u ∧ Below W.heap.size W w1 :=
  ⟨cellB h.1 hb, cellB h.2.1 hb, cellB h.2.2.1 hb, cellB h.2.2.2.1 hb, nextW h.2.2.2.2 hb⟩
theorem hentSame : ∀ (args : Array Value) (W : World), Sem.run Try.prog (callFunc 52 args) W = .ok (.enter 52 args) W := by
  intro args W; rfl

set_option maxRecDepth 100000 in
set_option maxHeartbeats 4000000 in
theorem walk (a0 : Option Addr) (len0 cap0 : Nat) (z0 : Unit) (w : World) (h0 : By w w.heap.size (.slice a0 len0 cap0) len0) :
    Calls Try.prog 14 #[.slice a0 len0 cap0] w fun e w' => e = .returned (.bool true) ∧ Below w.heap.size w w' := by
  by_cases hn : len0 ≤ 1048576
  · have hlt : decide ((1048576 : Int) < (len0 : Int)) = false := decide_eq_false (by omega)
    go_enter Try.func14, Try.ntmps14
    go_wp2_with fail
    refine (drawSparesFit_any _ len0 w.heap.size w h0 (Nat.le_refl _)).mono ?_
    rintro e w1 ⟨v1, nm, nk, rfl, hd⟩
    obtain ⟨cs, n, b1, s1, hn12⟩ := hd.out
    obtain ⟨O, hO⟩ : ∃ O, fitI cs n nm nk = O := ⟨_, rfl⟩
    obtain ⟨K, hK⟩ : ∃ K, fitB cs n nm nk = K := ⟨_, rfl⟩
    have HM : Hid (fitI cs n nm nk = O ∧ fitB cs n nm nk = K) := Lib.hid ⟨hO, hK⟩
    obtain ⟨bb, x0, x1⟩ := box2 w1 nm nk 35
    have V1 := Lib.hid (s1.old bb)
    have B := Lib.hid (nextW b1 bb)
    have X0 := Lib.hid x0
    have X1 := Lib.hid x1
    obtain ⟨c1, k1, rfl, -⟩ := s1
    have hne : (K != K) = false := by simp
    have hne2 : (O != O) = false := by simp
    have hz1 : w1.heap.size < (w1.alloc (.cells #[.int .i64 nm, .int .i64 nk] 35)).heap.size := by simp
    clear hd b1 hO hK bb x0 x1
    go_upto_region 4 with (fail)
    revert hz1
    revert X1
    revert X0
    revert B
    revert V1
    generalize w1.alloc (.cells #[.int .i64 nm, .int .i64 nk] 35) = w2
    intro V1 B X0 X1 hz1
    have x0 := X0.out
    have x1 := X1.out
    go_wp2_with fail
    refine (implSparesFit_is _ nm nk cs n _ _ V1.out HM.out).mono ?_
    rintro e w3 ⟨rfl, b⟩
    clear x0 x1
    replace B := Lib.hid (nextW B.out b)
    replace V1 := Lib.hid (V1.out.old b)
    replace X0 := Lib.hid (cellB X0.out b)
    replace X1 := Lib.hid (cellB X1.out b)
    clear b
    have x0 := X0.out
    have x1 := X1.out
    go_wp2_with fail
    refine (specSparesFit_is _ nm nk cs n _ _ V1.out HM.out).mono ?_
    rintro e w4 ⟨rfl, b⟩
    clear x0 x1
    replace B := Lib.hid (nextW B.out b)
    replace V1 := Lib.hid (V1.out.old b)
    replace X0 := Lib.hid (cellB X0.out b)
    replace X1 := Lib.hid (cellB X1.out b)
    clear b
    cases K with
    | false =>
      go_wp2
      go_ret
      exact ⟨rfl, B.out⟩
    | true =>
      obtain ⟨f, hfn, hfO, hfs, hmin, hbest⟩ := fit_best HM.out.2
      obtain rfl : O = (f : Int) := by rw [← hfO]; exact HM.out.1.symm
      have HMIN := Lib.hid hmin
      have HBEST := Lib.hid hbest
      have HFS := Lib.hid hfs
      have hfn2 : (f : Int) < (n : Int) := by omega
      clear hfO hmin hbest hfs
      go_wp2
      go_loopw [9] (fun i wr => ∃ k : Nat, k ≤ n ∧ i = .int .i64 k ∧ Hid (Below w4.heap.size w4 wr)) (fun i _ => n - (intOf i).toNat)
      case atStart => exact ⟨0, Nat.zero_le _, rfl, Below.refl _ _⟩
      case round =>
        obtain ⟨k, hk, rfl, hB⟩ := hrel
        by_cases hlt2 : k < n
        · have W1 := Lib.hid (V1.out.old hB.out)
          obtain ⟨_, _, e2, _, _, _, _, hc1⟩ := W1.out
          cases e2
          obtain ⟨b1, off1, rfl, hb1, hc1⟩ := hc1 (by omega)
          obtain ⟨d0, d1⟩ := cellsS hc1 hlt2 (Below.refl _ _) (World.block_lt_of_cell? wr _ (hc1 (k * 2) (by omega)))
          obtain ⟨f0, -⟩ := cellsS hc1 hfn (Below.refl _ _) (World.block_lt_of_cell? wr _ (hc1 (f * 2) (by omega)))
          have y0 := cellB X0.out hB.out
          have y1 := cellB X1.out hB.out
          have hkn2 : (k : Int) < (n : Int) := by omega
          have HK := Lib.hid fun a b => HMIN.out k hlt2 a b
          clear hc1 W1
          revert HK
          revert f0
          revert d1
          revert d0
          generalize smi cs k = x
          generalize ski cs k = y
          generalize smi cs f = z
          intro d0 d1 f0 HK
          have p0 := cell_regrown d0
          have p1 := cell_regrown d1
          have q0 := cell_regrown f0
          have r0 := cell_regrown y0
          have r1 := cell_regrown y1
          by_cases he : y = nk
          · have t1 : (y == nk) = true := by simp [he]
            by_cases hg : nm ≤ x
            · have t2 : decide (nm ≤ x) = true := decide_eq_true hg
              obtain ⟨hk1, hk2⟩ := HK.out he hg
              have t3 : decide (x < z) = false := decide_eq_false (by omega)
              clear HK he
              by_cases hkf : k < f
              · have t4 : decide ((k : Int) < (f : Int)) = true := decide_eq_true (by omega)
                have t6 : decide (k < f) = true := decide_eq_true (by omega)
                have t5 : (x == z) = false := by have := hk2 hkf; simp; omega
                go_wp2_with fail
                refine wp_region_quiet_below (by kernel_rfl) (by kernel_rfl) ?_
                repeat (any_goals (first | go_big_quiet_step ((fail)) | quiet_step ((fail))))
                refine wpQuiet_nil ?_
                intro _ hw'
                obtain ⟨⟨dq, osq⟩, hw''⟩ := hw'
                subst hw''
                have bq := below_regrown (wr) dq osq
                revert bq
                generalize Go.Sort.grow (redrawn (wr) dq) osq = wq
                intro bq
                clear p0 p1 q0 r0 r1
                replace d0 := cellB d0 bq
                replace d1 := cellB d1 bq
                replace f0 := cellB f0 bq
                replace y0 := cellB y0 bq
                replace y1 := cellB y1 bq
                have B7 := Lib.hid (nextW hB.out bq)
                clear bq
                revert B7
                revert y1
                revert y0
                revert f0
                revert d1
                revert d0
                generalize wq = W7
                intro d0 d1 f0 y0 y1 B7
                have p0 := cell_regrown d0
                have p1 := cell_regrown d1
                have q0 := cell_regrown f0
                have r0 := cell_regrown y0
                have r1 := cell_regrown y1
                go_wp2_with fail
                refine wp_region_quiet_below (by kernel_rfl) (by kernel_rfl) ?_
                repeat (any_goals (first | go_big_quiet_step ((fail)) | quiet_step ((fail))))
                refine wpQuiet_nil ?_
                intro _ hw'
                obtain ⟨⟨dq, osq⟩, hw''⟩ := hw'
                subst hw''
                have bq := below_regrown (W7) dq osq
                revert bq
                generalize Go.Sort.grow (redrawn (W7) dq) osq = wq
                intro bq
                clear p0 p1 q0 r0 r1 d0 d1 f0 y0 y1
                have B8 := Lib.hid (nextW B7.out bq)
                clear bq
                go_wp2
                go_roundw
                case rel => exact ⟨k + 1, by omega, by go_num, B8⟩
                case measure => simp [intOf]; omega
              · have t4 : decide ((k : Int) < (f : Int)) = false := decide_eq_false (by omega)
                have t6 : decide (k < f) = false := decide_eq_false (by omega)
                go_wp2_with fail
                refine wp_region_quiet_below (by kernel_rfl) (by kernel_rfl) ?_
                repeat (any_goals (first | go_big_quiet_step ((fail)) | quiet_step ((fail))))
                refine wpQuiet_nil ?_
                intro _ hw'
                obtain ⟨⟨dq, osq⟩, hw''⟩ := hw'
                subst hw''
                have bq := below_regrown (wr) dq osq
                revert bq
                generalize Go.Sort.grow (redrawn (wr) dq) osq = wq
                intro bq
                clear p0 p1 q0 r0 r1
                replace d0 := cellB d0 bq
                replace d1 := cellB d1 bq
                replace f0 := cellB f0 bq
                replace y0 := cellB y0 bq
                replace y1 := cellB y1 bq
                have B7 := Lib.hid (nextW hB.out bq)
                clear bq
                revert B7
                revert y1
                revert y0
                revert f0
                revert d1
                revert d0
                generalize wq = W7
                intro d0 d1 f0 y0 y1 B7
                have p0 := cell_regrown d0
                have p1 := cell_regrown d1
                have q0 := cell_regrown f0
                have r0 := cell_regrown y0
                have r1 := cell_regrown y1
                go_wp2_with fail
                refine wp_region_quiet_below (by kernel_rfl) (by kernel_rfl) ?_
                repeat (any_goals (first | go_big_quiet_step ((fail)) | quiet_step ((fail))))
                refine wpQuiet_nil ?_
                intro _ hw'
                obtain ⟨⟨dq, osq⟩, hw''⟩ := hw'
                subst hw''
                have bq := below_regrown (W7) dq osq
                revert bq
                generalize Go.Sort.grow (redrawn (W7) dq) osq = wq
                intro bq
                clear p0 p1 q0 r0 r1 d0 d1 f0 y0 y1
                have B8 := Lib.hid (nextW B7.out bq)
                clear bq
                go_wp2
                go_roundw
                case rel => exact ⟨k + 1, by omega, by go_num, B8⟩
                case measure => simp [intOf]; omega
            · have t2 : decide (nm ≤ x) = false := decide_eq_false hg
              clear HK he
              go_wp2_with fail
              refine wp_region_quiet_below (by kernel_rfl) (by kernel_rfl) ?_
              repeat (any_goals (first | go_big_quiet_step ((fail)) | quiet_step ((fail))))
              refine wpQuiet_nil ?_
              intro _ hw'
              obtain ⟨⟨dq, osq⟩, hw''⟩ := hw'
              subst hw''
              have bq := below_regrown (wr) dq osq
              revert bq
              generalize Go.Sort.grow (redrawn (wr) dq) osq = wq
              intro bq
              clear p0 p1 q0 r0 r1
              replace d0 := cellB d0 bq
              replace d1 := cellB d1 bq
              replace f0 := cellB f0 bq
              replace y0 := cellB y0 bq
              replace y1 := cellB y1 bq
              have B7 := Lib.hid (nextW hB.out bq)
              clear bq
              revert B7
              revert y1
              revert y0
              revert f0
              revert d1
              revert d0
              generalize wq = W7
              intro d0 d1 f0 y0 y1 B7
              have p0 := cell_regrown d0
              have p1 := cell_regrown d1
              have q0 := cell_regrown f0
              have r0 := cell_regrown y0
              have r1 := cell_regrown y1
              go_wp2_with fail
              refine wp_region_quiet_below (by kernel_rfl) (by kernel_rfl) ?_
              repeat (any_goals (first | go_big_quiet_step ((fail)) | quiet_step ((fail))))
              refine wpQuiet_nil ?_
              intro _ hw'
              obtain ⟨⟨dq, osq⟩, hw''⟩ := hw'
              subst hw''
              have bq := below_regrown (W7) dq osq
              revert bq
              generalize Go.Sort.grow (redrawn (W7) dq) osq = wq
              intro bq
              clear p0 p1 q0 r0 r1 d0 d1 f0 y0 y1
              have B8 := Lib.hid (nextW B7.out bq)
              clear bq
              go_wp2
              go_roundw
              case rel => exact ⟨k + 1, by omega, by go_num, B8⟩
              case measure => simp [intOf]; omega
          · have t1 : (y == nk) = false := by simp [he]
            clear HK
            go_wp2_with fail
            refine wp_region_quiet_below (by kernel_rfl) (by kernel_rfl) ?_
            repeat (any_goals (first | go_big_quiet_step ((fail)) | quiet_step ((fail))))
            refine wpQuiet_nil ?_
            intro _ hw'
            obtain ⟨⟨dq, osq⟩, hw''⟩ := hw'
            subst hw''
            have bq := below_regrown (wr) dq osq
            revert bq
            generalize Go.Sort.grow (redrawn (wr) dq) osq = wq
            intro bq
            clear p0 p1 q0 r0 r1
            replace d0 := cellB d0 bq
            replace d1 := cellB d1 bq
            replace f0 := cellB f0 bq
            replace y0 := cellB y0 bq
            replace y1 := cellB y1 bq
            have B7 := Lib.hid (nextW hB.out bq)
            clear bq
            revert B7
            revert y1
            revert y0
            revert f0
            revert d1
            revert d0
            generalize wq = W7
            intro d0 d1 f0 y0 y1 B7
            have p0 := cell_regrown d0
            have p1 := cell_regrown d1
            have q0 := cell_regrown f0
            have r0 := cell_regrown y0
            have r1 := cell_regrown y1
            go_wp2_with fail
            refine wp_region_quiet_below (by kernel_rfl) (by kernel_rfl) ?_
            repeat (any_goals (first | go_big_quiet_step ((fail)) | quiet_step ((fail))))
            refine wpQuiet_nil ?_
            intro _ hw'
            obtain ⟨⟨dq, osq⟩, hw''⟩ := hw'
            subst hw''
            have bq := below_regrown (W7) dq osq
            revert bq
            generalize Go.Sort.grow (redrawn (W7) dq) osq = wq
            intro bq
            clear p0 p1 q0 r0 r1 d0 d1 f0 y0 y1
            have B8 := Lib.hid (nextW B7.out bq)
            clear bq
            go_wp2
            go_roundw
            case rel => exact ⟨k + 1, by omega, by go_num, B8⟩
            case measure => simp [intOf]; omega
        · obtain rfl : n = k := by omega
          have W1 := Lib.hid (V1.out.old hB.out)
          have y0 := cellB X0.out hB.out
          have y1 := cellB X1.out hB.out
          obtain ⟨bb, _, _⟩ := box2 wr nm nk 35
          have Y1 := Lib.hid (W1.out.old bb)
          have S1 := Lib.hid (built1 wr nm nk 35)
          have Y0 := Lib.hid (cellB y0 bb)
          have Y9 := Lib.hid (cellB y1 bb)
          have B6 := Lib.hid (nextW hB.out bb)
          clear bb W1 hB
          go_wp2_with fail
          refine (implServeBest_is _ _ cs [nm, nk] n 1 _ _ _ Y1.out S1.out HBEST.out).mono ?_
          rintro e w6 ⟨v6, rfl, b6, r6⟩
          clear y0 y1 S1
          have V6 := Lib.hid r6.sl
          obtain ⟨c6, l6, k6, rfl, -⟩ := r6
          have B7 := Lib.hid (nextW B6.out b6)
          have Z1 := Lib.hid (Y1.out.old b6)
          have y0 := cellB Y0.out b6
          have y1 := cellB Y9.out b6
          clear b6 Y1 Y0 Y9 B6
          obtain ⟨_, _, e2, _, _, _, _, hc1⟩ := Z1.out
          cases e2
          obtain ⟨b1, off1, rfl, hb1, hc1⟩ := hc1 (by omega)
          obtain ⟨f0, f1⟩ := cellsS hc1 hfn (Below.refl _ _) (World.block_lt_of_cell? w6 _ (hc1 (f * 2) (by omega)))
          clear hc1
          have t1 : (ski cs f == nk) = true := by simp [HFS.out.2]
          have t2 : decide (nm ≤ smi cs f) = true := decide_eq_true HFS.out.1
          go_upto_region 15 with (fail)
          have S0 := Lib.hid (And.intro f0 (And.intro f1 (And.intro y0 (And.intro y1 (below_drewN (Below.refl w6.heap.size w6) 1)))))
          go_region_held3 (fun w' => w'.cell? ⟨b1, off1 + f * 2, none⟩ = some (.int .i64 (smi cs f)) ∧ w'.cell? ⟨b1, off1 + f * 2 + 1, none⟩ = some (.int .i64 (ski cs f)) ∧ w'.cell? ⟨w1.heap.size, 0, none⟩ = some (.int .i64 nm) ∧ w'.cell? ⟨w1.heap.size, 1, none⟩ = some (.int .i64 nk) ∧ Below w6.heap.size w6 w')
            (first | assumption | exact S0.out | exact keep4 (by assumption) (by assumption) | exact keep4 (by assumption) (below1 _ _))
            (first | (go_at_call 52; refine (sameInts_b (r := true) _ _ [(f : Int)] [(f : Int)] w6.heap.size (w6.heap.size + 1) (w6.alloc (.cells #[.int .i64 (f : Int)] 3)).drew (V6.out.old (below1 w6 (f : Int)).drew) ((sl_one w6 (f : Int)).drewN 1) (decide_eq_true rfl)).mono ?_; rintro e wA ⟨rfl, bA⟩))
          all_goals
            go_wp2
            go_ret
            exact ⟨rfl, nextW B.out (nextW B7.out (show _ ∧ _ ∧ _ ∧ _ ∧ Below w6.heap.size w6 _ from by assumption).2.2.2.2)⟩
  · have hlt : decide ((1048576 : Int) < (len0 : Int)) = true := decide_eq_true (by omega)
    go_enter Try.func14, Try.ntmps14
    go_wp2
    go_ret
    exact ⟨rfl, Below.refl _ _⟩

set_option maxRecDepth 100000 in
theorem lifted (os : Os) (started : os.Started) (H : Type) (enc : TypeId × Value → H) :
    ReturnsInHanded {} Try.checked os 14 .any (Rows.fnFitSpec.pre6 enc Try.prog Try.f14 Rows.fnFitRow.domain false) (Rows.fnFitSpec.post enc Try.prog Try.f14 false true false false) := by
  refine returnsInHanded_of_change (C := Try.checked) own started (by kernel_rfl) Try.func14
    (ChangeSpec.witness6 (enc := enc) (C := Try.checked) false ⟨#[], #[.slice none 0 0], []⟩ 8 (by kernel_rfl) (by kernel_rfl) (by kernel_rfl) (by kernel_rfl)) ?_
  intro W base args ds gs before hval0 hW hcnd _
  have hval : ∀ (j : Nat) t v, Try.f14.params[j]? = some t → args[j]? = some v → Value.okWide Try.prog W .any base t v := hval0
  have hW' := hW
  obtain ⟨p, q, hA0, hV, rfl, hfz, hnd⟩ := hW
  have hA : DataW.TrodAll enc Try.prog W 0 (fun _ => true) true Try.f14.params.toList args.toList ds p := hA0
  rw [Try.params14] at hA hval
  obtain ⟨v0, vs0, d0, ds0, p0, q0, hargs, rfl, rfl, h0, r0⟩ := trodAll_cons hA
  obtain ⟨rfl, rfl, rfl⟩ := trodAll_nil r0
  obtain rfl : args = #[v0] := by cases args; simp_all
  obtain ⟨rfl, rfl⟩ := trodVars_none hV
  obtain ⟨a0, len0, cap0, rfl⟩ := okWide_slice Try.underlying48 (hval 0 48 v0 rfl rfl)
  have k0 := h0
  have lt0 : ∀ x ∈ p0, x.block < W.heap.size := by obtain ⟨m, hm⟩ := k0; exact DataW.trod_lt m _ _ _ hm
  obtain ⟨z0, w0⟩ := by0_of h0
  clear hA0 hval0
  refine (walk a0 len0 cap0 z0 W w0).mono fun e W' ⟨he, bel⟩ => ?_
  subst he
  exact ⟨_, rfl, _, _, _, [], _, [], hW', trodAll_mk1 (shut_bool Try.underlying4 _), (trodAll_cons_mk (Below.trod laidOut (by kernel_rfl) (of_decide_eq_true (by kernel_rfl)) k0 bel lt0) trodAll_mk0), rfl, bel.frame _, fun h => by cases h⟩

theorem over : Rows.fnFitRow.holds Try.pinned (OpenSpec.ofChange Rows.fnFitSpec) :=
  OpenClaim.holds_of_wide 14 Try.f14 rfl rfl rfl rfl rfl rfl rfl ⟨rfl, rfl, rfl, rfl, rfl⟩ rfl rfl rfl rfl rfl (by kernel_rfl) Try.func14 (facts_of signs (by kernel_rfl))
    (of_decide_eq_true (by kernel_rfl)) (by unfold Func.isWrapper; first | (rw [if_pos (by decide +kernel)]; kernel_rfl) | (rw [if_neg (by decide +kernel)]; exact ⟨rfl, rfl⟩))
    (fun os started H enc _ => lifted os started H enc)

theorem proved : Rows.FnFitSaid := over
#print axioms proved

end Go.Proofs.Ythbkimojbbkeiaa.fnFit
