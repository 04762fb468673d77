/- FnBoth: the faults that both measurements fit. -/
import Derived.Test.YtoanefccnbnkmaaLawD
import Derived.Test.YtoanefccnbnkmaaSameF
import Derived.Test.YtoanefccnbnkmaaOneLaw
import Derived.Test.YtoanefccnbnkmaaIf
import Derived.Test.YtoanefccnbnkmaaBoth
import Derived.Test.YtoanefccnbnkmaaHf
import Derived.Test.YtoanefccnbnkmaaDrN
import Derived.BigQuiet
namespace Go.Proofs.Ytoanefccnbnkmaa.fnBoth
open Go.ChangeShapes Go.WideShapes Go.ChangeAt Go.RowKit
set_option linter.unusedVariables false

theorem bo_le (cs : List Int) (n : Nat) (a t l : Int) : ∀ k, (boTo cs n a t l k).length ≤ (onTo cs n a k).length
  | 0 => Nat.le_refl _
  | k + 1 => by
    have h := bo_le cs n a t l k
    simp only [boTo, onTo]
    cases inB (a - ohmsI cs n k) 0 1000 with
    | false => simpa using h
    | true =>
      cases erB cs n k (a - ohmsI cs n k) t l with
      | false => simp; omega
      | true => simp; omega
theorem both_step0 {cs Lb : List Int} {n N cb : Nat} {a t l m f : Int} (hb : Fl (boP cs n a t l) Lb N cb) (p1 : 0 ≤ m) (p2 : m < (N : Int)) (p3 : onP cs n a m f) : hasF Lb cb m f = erB cs n m f t l := by
  cases hr : erB cs n m f t l with
  | true =>
    have hp : boP cs n a t l m f := And.intro p3 hr
    obtain ⟨x, hx⟩ := Int.eq_ofNat_of_zero_le p1
    subst hx
    obtain ⟨i, hi, i1, i2⟩ := hb.got x f (Nat.zero_le _) (by omega) hp
    exact hasF_yes hi i1 i2
  | false =>
    refine hasF_no fun i hi hh => ?_
    have h3 : boP cs n a t l (gi Lb (i * 2)) (gi Lb (i * 2 + 1)) := (hb.all i hi).2.2
    rw [hh.1, hh.2] at h3
    have h4 : erB cs n m f t l = true := And.right h3
    rw [hr] at h4
    cases h4
theorem er_fe {cs : List Int} {n : Nat} {m f t l T' L' : Int} (h : feT cs n m f = T' ∧ feL cs n m f = L' ∧ fvB cs n m f = true) : erB cs n m f t l = (T' == t && L' == l) := by
  obtain ⟨h1, h2, h3⟩ := h
  have e1 : feT cs n m f = eaT (ohmsI cs n m) (allI cs n - ohmsI cs n m) f := if_pos h3
  have e2 : feL cs n m f = eaL (ohmsI cs n m) (allI cs n - ohmsI cs n m) f := if_pos h3
  unfold erB
  rw [← e1, ← e2, h1, h2]
theorem both_step {cs L Lb : List Int} {n c cb j : Nat} {a t l T' L' : Int} (ho : Fl (onP cs n a) L (nMl cs n) c) (hb : Fl (boP cs n a t l) Lb (nMl cs n) cb) (hj : j < c)
    (h : feT cs n (gi L (j * 2)) (gi L (j * 2 + 1)) = T' ∧ feL cs n (gi L (j * 2)) (gi L (j * 2 + 1)) = L' ∧ fvB cs n (gi L (j * 2)) (gi L (j * 2 + 1)) = true) :
    hasF Lb cb (gi L (j * 2)) (gi L (j * 2 + 1)) = (T' == t && L' == l) :=
  (both_step0 hb (ho.all j hj).1 (ho.all j hj).2.1 (ho.all j hj).2.2).trans (er_fe h)

set_option maxRecDepth 100000 in
set_option maxHeartbeats 4000000 in
theorem walk (a0 : Option Addr) (len0 cap0 : Nat) (z0 : Unit) (w : World) (h0 : By w w.heap.size (.slice a0 len0 cap0) len0) :
    Calls Try.prog 16 #[.slice a0 len0 cap0] w fun e w' => e = .returned (.bool true) ∧ Below w.heap.size w w' := by
  by_cases hn : len0 ≤ 1048576
  · have hlt : decide ((1048576 : Int) < (len0 : Int)) = false := by simp; omega
    go_enter Try.func16, Try.ntmps16
    go_wp2_with fail
    refine (drawFaultBoth_any _ len0 w.heap.size w h0 (Nat.le_refl _)).mono ?_
    rintro e w1 ⟨r, a, t, l, rfl, hd⟩
    obtain ⟨⟨cs, k, b1, s1⟩, ha⟩ := hd.out
    obtain ⟨bb, x0, x1⟩ := box2 w1 t l 31
    have B3 := Lib.hid (nextW b1 bb)
    have S3 := Lib.hid (s1.old bb)
    have HA : Hid (-9223372036854775808 ≤ a ∧ a ≤ 9223372036854775807) := Lib.hid (by omega)
    clear hd b1 s1 bb ha
    go_wp2_with fail
    refine (implFaultBoth_b _ a t l cs k _ _ S3.out HA.out).mono ?_
    rintro e w2 ⟨v2, cb, rfl, b, r2⟩
    replace B3 := Lib.hid (nextW B3.out b)
    replace S3 := Lib.hid (S3.out.old b)
    have L3 := Lib.hid r2.sl
    replace x0 := cellB x0 b
    replace x1 := cellB x1 b
    clear b r2
    go_wp2_with fail
    refine (specFaultBoth_b _ a t l cs k _ _ S3.out).mono ?_
    rintro e w3 ⟨v3, c3, rfl, b, r3⟩
    replace B3 := Lib.hid (nextW B3.out b)
    replace S3 := Lib.hid (S3.out.old b)
    replace L3 := Lib.hid (L3.out.old b)
    have G3 := Lib.hid r3.sl
    replace x0 := cellB x0 b
    replace x1 := cellB x1 b
    clear b r3
    have hne : ∀ b : Bool, (b != b) = false := by simp
    have hne2 := hne (oneOk cs k a)
    clear hne
    cases hok : oneOk cs k a with
    | false =>
      go_wp2_with fail
      refine (sameFaults_yes _ _ _ _ _ _ _ _ L3.out G3.out).mono ?_
      rintro e w4 ⟨rfl, b4⟩
      have B4 := Lib.hid (nextW B3.out b4)
      have L4 := Lib.hid (L3.out.old b4)
      have G4 := Lib.hid (G3.out.old b4)
      clear b4
      go_wp2_with fail
      refine (sameFaults_yes _ _ _ _ _ _ _ _ L4.out G4.out).mono ?_
      rintro e w5 ⟨rfl, b5⟩
      have B5 := Lib.hid (nextW B4.out b5)
      clear b5
      go_wp2
      go_ret
      exact ⟨rfl, B5.out⟩
    | true =>
      go_wp2_with fail
      refine (sameFaults_yes _ _ _ _ _ _ _ _ L3.out G3.out).mono ?_
      rintro e w4 ⟨rfl, b⟩
      replace B3 := Lib.hid (nextW B3.out b)
      replace S3 := Lib.hid (S3.out.old b)
      replace L3 := Lib.hid (L3.out.old b)
      replace x0 := cellB x0 b
      replace x1 := cellB x1 b
      clear b G3
      go_wp2_with fail
      refine (implFaultOne_b _ a cs k _ _ S3.out HA.out).mono ?_
      rintro e w5 ⟨v5, c, rfl, b, r5⟩
      rw [hok]
      replace B3 := Lib.hid (nextW B3.out b)
      replace S3 := Lib.hid (S3.out.old b)
      replace L3 := Lib.hid (L3.out.old b)
      have O3 := Lib.hid r5.sl
      replace x0 := cellB x0 b
      replace x1 := cellB x1 b
      clear b r5
      have hLe : oneL cs k a = onTo cs k a (nMl cs k) := by unfold oneL; rw [hok]; rfl
      have hLb : bothL cs k a t l = boTo cs k a t l (nMl cs k) := by unfold bothL; rw [hok]; rfl
      obtain ⟨c', fl⟩ := onTo_fl cs k a (nMl cs k)
      obtain ⟨cb', fb⟩ := boTo_fl cs k a t l (nMl cs k)
      have hcab : cabB cs k = true := by unfold oneOk at hok; simp only [Bool.and_eq_true] at hok; exact hok.1
      have htwo := both_two hcab fb
      have hle := bo_le cs k a t l (nMl cs k)
      rw [← hLe] at fl hle
      rw [← hLb] at fb hle
      obtain rfl : c' = c := by have h1 := fl.len; have h2 := O3.out.len.1; omega
      obtain rfl : cb' = cb := by have h1 := fb.len; have h2 := L3.out.len.1; omega
      have hcc : cb' ≤ c' := by have h1 := fl.len; have h2 := fb.len; omega
      have FL := Lib.hid fl
      have FB := Lib.hid fb
      have g1 : decide ((cb' : Int) ≤ 2) = true := decide_eq_true (by omega)
      have g2 : decide ((cb' : Int) ≤ (c' : Int)) = true := decide_eq_true (by omega)
      have GG := Lib.hid (And.intro g1 (And.intro g2 (And.intro htwo hcc)))
      clear hLe hLb fl fb hcab htwo hle hcc g1 g2
      revert O3 L3 FL FB
      generalize oneL cs k a = L
      generalize bothL cs k a t l = Lb
      intro O3 L3 FL FB
      have L3s := Lib.hid L3.out
      obtain ⟨ob, ocap, rfl, hl2, hcn2, hcap3, hcap4, hc2⟩ := (id L3.out)
      obtain ⟨va, vcap, rfl, hl, hcn, hcap, hcap2, hc⟩ := (id O3.out)
      have HC := Lib.hid hc
      have HOK := Lib.hid hok
      have X0 := Lib.hid x0
      have X1 := Lib.hid x1
      clear hc hc2 hl hl2 hok hne2 x0 x1
      go_wp2
      go_loopw [12] (fun i wr => ∃ j : Nat, j ≤ c' ∧ i = .int .i64 j ∧ Hid (Below w5.heap.size w5 wr)) (fun i _ => c' - (intOf i).toNat)
      case atStart => exact ⟨0, Nat.zero_le _, rfl, Lib.hid (Below.refl _ _)⟩
      case round =>
        obtain ⟨j, hj, rfl, hB⟩ := hrel
        by_cases hltj : j < c'
        · obtain ⟨b, off, rfl, hbh, hc⟩ := HC.out (by omega)
          obtain ⟨c0, c1⟩ := cel2 hc hltj hB.out (World.block_lt_of_cell? w5 _ (hc (j * 2) (by omega)))
          have FV := one_fv FL.out hltj
          obtain ⟨T', hT'⟩ : ∃ T', feT cs k (gi L (j * 2)) (gi L (j * 2 + 1)) = T' := ⟨_, rfl⟩
          obtain ⟨L', hL'⟩ : ∃ L', feL cs k (gi L (j * 2)) (gi L (j * 2 + 1)) = L' := ⟨_, rfl⟩
          have BS := both_step FL.out FB.out hltj ⟨hT', hL', FV.1⟩
          have P1 := Lib.hid (And.intro hT' (And.intro hL' FV.1))
          have x0 := cellB X0.out hB.out
          have x1 := cellB X1.out hB.out
          have hjn : j + 1 ≤ c' := by omega
          clear hc FV hT' hL'
          revert c0 c1 BS P1
          generalize gi L (j * 2) = m
          generalize gi L (j * 2 + 1) = f
          intro c0 c1 BS P1
          go_wp2_with fail
          refine (implFaultEarthed_is _ m f cs k _ _ (S3.out.old hB.out) P1.out).mono ?_
          rintro e w6 ⟨rfl, b6⟩
          obtain ⟨u0, y0, y1⟩ := box2 w6 T' L' 31
          have hB6 := Lib.hid (nextW (nextW hB.out b6) u0)
          replace c0 := cellB (cellB c0 b6) u0
          replace c1 := cellB (cellB c1 b6) u0
          replace x0 := cellB (cellB x0 b6) u0
          replace x1 := cellB (cellB x1 b6) u0
          clear b6 u0 hB
          have p0 := cell_regrown c0
          have p1 := cell_regrown c1
          have p2 := cell_regrown x0
          have p3 := cell_regrown x1
          have p4 := cell_regrown y0
          have p5 := cell_regrown y1
          by_cases hTt : T' = t
          · subst hTt
            by_cases hLl : L' = l
            · subst hLl
              have e4 : (T' == T') = true := by simp
              have e5 : (L' == L') = true := by simp
              have BP := Lib.hid (show hasF Lb cb' m f = true from by rw [BS]; simp [*])
              clear BS
              go_wp2_with fail
              refine wp_region_quiet_below (by kernel_rfl) (by kernel_rfl) ?_
              repeat (any_goals (first | go_big_quiet_step (((go_at_call 59; exact Calls.regrown_of (hasFault_is _ m f Lb cb' _ _ ((L3s.out.old hB6.out).old (below_regrown _ _ _)) BP.out)))) | quiet_step (((go_at_call 59; exact Calls.regrown_of (hasFault_is _ m f Lb cb' _ _ ((L3s.out.old hB6.out).old (below_regrown _ _ _)) BP.out))))))
              refine wpQuiet_nil ?_
              intro _ hw'
              obtain ⟨⟨dq, osq⟩, hw''⟩ := hw'
              subst hw''
              have bq := below_regrown (w6.alloc (.cells #[.int .i64 T', .int .i64 L'] 31)) dq osq
              revert bq
              generalize Go.Sort.grow (redrawn (w6.alloc (.cells #[.int .i64 T', .int .i64 L'] 31)) dq) osq = wq
              intro bq
              clear p0 p1 p2 p3 p4 p5
              go_wp2
              go_roundw
              case rel => exact ⟨_, hjn, rfl, Lib.hid (nextW hB6.out bq)⟩
              case measure => simp [intOf]; omega
            · have e4 : (T' == T') = true := by simp
              have e5 : (L' == l) = false := by simpa using hLl
              have BP := Lib.hid (show hasF Lb cb' m f = false from by rw [BS]; simp [*])
              clear BS
              go_wp2_with fail
              refine wp_region_quiet_below (by kernel_rfl) (by kernel_rfl) ?_
              repeat (any_goals (first | go_big_quiet_step (((go_at_call 59; exact Calls.regrown_of (hasFault_is _ m f Lb cb' _ _ ((L3s.out.old hB6.out).old (below_regrown _ _ _)) BP.out)))) | quiet_step (((go_at_call 59; exact Calls.regrown_of (hasFault_is _ m f Lb cb' _ _ ((L3s.out.old hB6.out).old (below_regrown _ _ _)) BP.out))))))
              refine wpQuiet_nil ?_
              intro _ hw'
              obtain ⟨⟨dq, osq⟩, hw''⟩ := hw'
              subst hw''
              have bq := below_regrown (w6.alloc (.cells #[.int .i64 T', .int .i64 L'] 31)) dq osq
              revert bq
              generalize Go.Sort.grow (redrawn (w6.alloc (.cells #[.int .i64 T', .int .i64 L'] 31)) dq) osq = wq
              intro bq
              clear p0 p1 p2 p3 p4 p5
              go_wp2
              go_roundw
              case rel => exact ⟨_, hjn, rfl, Lib.hid (nextW hB6.out bq)⟩
              case measure => simp [intOf]; omega
          · have e4 : (T' == t) = false := by simpa using hTt
            have BP := Lib.hid (show hasF Lb cb' m f = false from by rw [BS]; simp [*])
            clear BS
            go_wp2_with fail
            refine wp_region_quiet_below (by kernel_rfl) (by kernel_rfl) ?_
            repeat (any_goals (first | go_big_quiet_step (((go_at_call 59; exact Calls.regrown_of (hasFault_is _ m f Lb cb' _ _ ((L3s.out.old hB6.out).old (below_regrown _ _ _)) BP.out)))) | quiet_step (((go_at_call 59; exact Calls.regrown_of (hasFault_is _ m f Lb cb' _ _ ((L3s.out.old hB6.out).old (below_regrown _ _ _)) BP.out))))))
            refine wpQuiet_nil ?_
            intro _ hw'
            obtain ⟨⟨dq, osq⟩, hw''⟩ := hw'
            subst hw''
            have bq := below_regrown (w6.alloc (.cells #[.int .i64 T', .int .i64 L'] 31)) dq osq
            revert bq
            generalize Go.Sort.grow (redrawn (w6.alloc (.cells #[.int .i64 T', .int .i64 L'] 31)) dq) osq = wq
            intro bq
            clear p0 p1 p2 p3 p4 p5
            go_wp2
            go_roundw
            case rel => exact ⟨_, hjn, rfl, Lib.hid (nextW hB6.out bq)⟩
            case measure => simp [intOf]; omega
        · obtain rfl : c' = j := by omega
          obtain ⟨g1, g2, g3, g4⟩ := GG.out
          go_wp2
          go_ret
          exact ⟨rfl, nextW B3.out hB.out⟩
  · have hlt : decide ((1048576 : Int) < (len0 : Int)) = true := by simp; omega
    go_enter Try.func16, Try.ntmps16
    go_wp2
    go_ret
    exact ⟨rfl, Below.refl _ _⟩

set_option maxRecDepth 100000 in
theorem lifted (os : Os) (started : os.Started) (H : Type) (enc : TypeId × Value → H) :
    ReturnsInHanded {} Try.checked os 16 .any (Rows.fnBothSpec.pre6 enc Try.prog Try.f16 Rows.fnBothRow.domain false) (Rows.fnBothSpec.post enc Try.prog Try.f16 false true false false) := by
  refine returnsInHanded_of_change (C := Try.checked) own started (by kernel_rfl) Try.func16
    (ChangeSpec.witness6 (enc := enc) (C := Try.checked) false ⟨#[], #[.slice none 0 0], []⟩ 8 (by kernel_rfl) (by kernel_rfl) (by kernel_rfl) (by kernel_rfl)) ?_
  intro W base args ds gs before hval0 hW hcnd _
  have hval : ∀ (j : Nat) t v, Try.f16.params[j]? = some t → args[j]? = some v → Value.okWide Try.prog W .any base t v := hval0
  have hW' := hW
  obtain ⟨p, q, hA0, hV, rfl, hfz, hnd⟩ := hW
  have hA : DataW.TrodAll enc Try.prog W 0 (fun _ => true) true Try.f16.params.toList args.toList ds p := hA0
  rw [Try.params16] at hA hval
  obtain ⟨v0, vs0, d0, ds0, p0, q0, hargs, rfl, rfl, h0, r0⟩ := trodAll_cons hA
  obtain ⟨rfl, rfl, rfl⟩ := trodAll_nil r0
  obtain rfl : args = #[v0] := by cases args; simp_all
  obtain ⟨rfl, rfl⟩ := trodVars_none hV
  obtain ⟨a0, len0, cap0, rfl⟩ := okWide_slice Try.underlying48 (hval 0 48 v0 rfl rfl)
  have k0 := h0
  have lt0 : ∀ x ∈ p0, x.block < W.heap.size := by obtain ⟨m, hm⟩ := k0; exact DataW.trod_lt m _ _ _ hm
  obtain ⟨z0, w0⟩ := by0_of h0
  clear hA0 hval0
  refine (walk a0 len0 cap0 z0 W w0).mono fun e W' ⟨he, bel⟩ => ?_
  subst he
  exact ⟨_, rfl, _, _, _, [], _, [], hW', trodAll_mk1 (shut_bool Try.underlying4 _), (trodAll_cons_mk (Below.trod laidOut (by kernel_rfl) (of_decide_eq_true (by kernel_rfl)) k0 bel lt0) trodAll_mk0), rfl, bel.frame _, fun h => by cases h⟩

theorem over : Rows.fnBothRow.holds Try.pinned (OpenSpec.ofChange Rows.fnBothSpec) :=
  OpenClaim.holds_of_wide 16 Try.f16 rfl rfl rfl rfl rfl rfl rfl ⟨rfl, rfl, rfl, rfl, rfl⟩ rfl rfl rfl rfl rfl (by kernel_rfl) Try.func16 (facts_of signs (by kernel_rfl))
    (of_decide_eq_true (by kernel_rfl)) (by unfold Func.isWrapper; first | (rw [if_pos (by decide +kernel)]; kernel_rfl) | (rw [if_neg (by decide +kernel)]; exact ⟨rfl, rfl⟩))
    (fun os started H enc _ => lifted os started H enc)

theorem proved : Rows.FnBothSaid := over
#print axioms proved

end Go.Proofs.Ytoanefccnbnkmaa.fnBoth
