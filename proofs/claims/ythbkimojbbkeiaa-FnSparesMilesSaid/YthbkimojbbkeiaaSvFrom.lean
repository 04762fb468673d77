/- Contract: eachServing of the program: the recursion, and the whole. -/
import Derived.Test.YthbkimojbbkeiaaSvEach
import Derived.Laws.EntriesVeiled
namespace Go.Proofs.Ythbkimojbbkeiaa
open Go.RowKit

/-- Region 1 of the round's test: 'used>>k&1 == 0'. -/
theorem bit_test0 (m t : Nat) (hm : m < 1024) : (bits .and .i64 ((m : Int) / 2 ^ t) 1 == 0) = !m.testBit t := by
  have e : (m : Int) / 2 ^ t = ((m / 2 ^ t : Nat) : Int) := by
    rw [Int.natCast_ediv, Int.natCast_pow]; rfl
  have hle : m / 2 ^ t ≤ m := Nat.div_le_self _ _
  rw [e, show (1 : Int) = ((1 : Nat) : Int) from rfl, i64_and _ _ (by omega) (by omega), Nat.and_one_is_mod, Nat.testBit_eq_decide_div_mod_eq]
  rw [Bool.eq_iff_iff]
  simp only [beq_iff_eq, Bool.not_eq_true', decide_eq_false_iff_not]
  omega

set_option maxRecDepth 100000 in
set_option maxHeartbeats 8000000 in
theorem from_any (F : FuncId) (hent : ∀ args W, Sem.run Try.prog (callFunc F args) W = .ok (.enter F args) W) (caps : Array Value) (W0 : World) (z : Nat) (v1 v2 : Value) (K : List (List Int) → Nat → World → Prop) (cs ds : List Int) (n m h1 h2 : Nat) (hz : W0.heap.size ≤ z) (hn10 : n ≤ 10) (hm5 : m ≤ 5)
    (hv1 : SlF 2 W0 h1 v1 cs n) (hv2 : SlF 2 W0 h2 v2 ds m)
    (HK : ∀ V g g' W W', K V g W → kp z g W W' → (g' = g ∨ W.heap.size ≤ g') → K V g' W')
    (HF : ∀ (p : List Int) (g c q : Nat) (V : List (List Int)) (W : World), p ∈ servs cs ds n m [] → Sv W0 z v1 v2 (.func (.func F) #[] caps) K p g c q V W →
      Calls Try.prog F (#[.slice (some ⟨g, 0, none⟩) p.length c] ++ caps) W fun e W' => e = .returned (.tuple #[]) ∧ Hid (K (V ++ [p]) g W' ∧ Cb W0.heap.size z W W')) :
    ∀ (d : Nat) (p : List Int) (g c q : Nat) (V : List (List Int)) (W : World), p.length + d = m → (∀ s, s ∈ servs cs ds n d p → s ∈ servs cs ds n m []) → Mask q p → Sv W0 z v1 v2 (.func (.func F) #[] caps) K p g c q V W →
    Calls Try.prog 94 #[.pointer (some ⟨z + 4, 0, none⟩), .pointer (some ⟨z + 1, 0, none⟩), .pointer (some ⟨z + 2, 0, none⟩), .pointer (some ⟨z, 0, none⟩), .pointer (some ⟨z + 5, 0, none⟩), .pointer (some ⟨z + 6, 0, none⟩)] W
      fun e W' => e = .returned (.tuple #[]) ∧ Hid (∃ g' c', Sv W0 z v1 v2 (.func (.func F) #[] caps) K p g' c' q (V ++ servs cs ds n d p) W') := by
  have HV1 := Lib.hid hv1
  have HV2 := Lib.hid hv2
  have HKK := Lib.hid HK
  have HENT := Lib.hid hent
  clear hent
  have HFF := Lib.hid HF
  clear HK HF
  obtain ⟨a1, cap1, rfl, -⟩ := hv1
  obtain ⟨a2, cap2, rfl, -⟩ := hv2
  intro d
  induction d with
  | zero =>
    intro p g c q V W hd hmem hM hS
    have HS := Lib.hid hS
    have HMm := Lib.hid (hmem p (by simp [servs]))
    obtain ⟨l, hl⟩ : ∃ l, p.length = l := ⟨_, rfl⟩
    obtain rfl : l = m := by omega
    have c4 : W.cell? ⟨z + 4, 0, none⟩ = some (.slice (some ⟨g, 0, none⟩) l c) := by rw [hS.rs.cell, hl]; rfl
    have c1 : W.cell? ⟨z + 1, 0, none⟩ = some (.slice a2 l cap2) := by rw [hS.rn.cell]; rfl
    have c2 : W.cell? ⟨z + 2, 0, none⟩ = some (.func (.func F) #[] caps) := by rw [hS.rc.cell]; rfl
    have HC := HFF.out p g c q V W HMm.out hS
    rw [hl] at HC
    replace HC := Lib.hid HC
    clear hd hmem hM hS hl
    go_enter Try.func94, Try.ntmps94
    go_wp2_with fail
    rw [HENT.out]
    refine HC.out.mono ?_
    rintro e w1 ⟨rfl, h1⟩
    have H1 := Lib.hid (HS.out.call h1.out.1 h1.out.2)
    clear h1 HC
    go_wp2_with fail
    refine bodyPost_ret (results_none rfl _ _ _) rfl ?_
    exact ⟨rfl, Lib.hid ⟨g, c, H1.out⟩⟩
  | succ d ih =>
    intro p g c q V W hd hmem hM hS
    have HI := Lib.hid ih
    have HS := Lib.hid hS
    have HM := Lib.hid hM
    have HME := Lib.hid hmem
    have HD := Lib.hid hd
    obtain ⟨l, hl⟩ : ∃ l, p.length = l := ⟨_, rfl⟩
    have hlm : l < m := by omega
    have HL := Lib.hid hl
    have hne : ((l : Int) == (m : Int)) = false := by simp; omega
    have c4 : W.cell? ⟨z + 4, 0, none⟩ = some (.slice (some ⟨g, 0, none⟩) l c) := by rw [hS.rs.cell, hl]; rfl
    have c1 : W.cell? ⟨z + 1, 0, none⟩ = some (.slice a2 m cap2) := by rw [hS.rn.cell]; rfl
    have c3 : W.cell? ⟨z, 0, none⟩ = some (.slice a1 n cap1) := by rw [hS.rl.cell]; rfl
    have hS0 : Hid (∃ g' c', Sv W0 z (.slice a1 n cap1) (.slice a2 m cap2) (.func (.func F) #[] caps) K p g' c' q (V ++ servsTo cs ds n d p 0) W) := Lib.hid ⟨g, c, by rw [show servsTo cs ds n d p 0 = [] from rfl, List.append_nil]; exact hS⟩
    clear ih hd hmem hM hS hl
    go_enter Try.func94, Try.ntmps94
    go_wp2_with fail
    clear hne c4 c1 c3 HS
    go_loopw [18] (fun i wr => ∃ k : Nat, k ≤ n ∧ i = .int .i64 k ∧ Hid (∃ g' c', Sv W0 z (.slice a1 n cap1) (.slice a2 m cap2) (.func (.func F) #[] caps) K p g' c' q (V ++ servsTo cs ds n d p k) wr)) (fun i _ => n - (intOf i).toNat)
    case atStart => exact ⟨0, Nat.zero_le _, rfl, hS0⟩
    case round =>
      clear hS0
      obtain ⟨k, hk, rfl, hS⟩ := hrel
      by_cases hlt : k < n
      · obtain ⟨g', c', hs⟩ := hS.out
        have hbel := hs.bel
        have HS := Lib.hid hs
        have hB2 := (Below.refl wr.heap.size wr).alloc (Nat.le_refl _) (.cells #[.int .i64 (smi cs k), .int .i64 (ski cs k)] 35)
        have V1 := HV1.out.old hbel
        have V2 := HV2.out.old (hbel.trans (hB2.mono hbel.size))
        obtain ⟨_, _, e2, _, _, _, _, hc1⟩ := V1
        cases e2
        obtain ⟨b1, off1, rfl, hb1, hc1⟩ := hc1 (by omega)
        obtain ⟨d0, d1⟩ := cellsS hc1 hlt (Below.refl _ _) (World.block_lt_of_cell? wr _ (hc1 (k * 2) (by omega)))
        obtain ⟨_, _, e2, _, _, _, _, hc2⟩ := V2
        cases e2
        obtain ⟨b2, off2, rfl, hb2, hc2⟩ := hc2 (by omega)
        obtain ⟨f0, f1⟩ := cellsS hc2 hlm (Below.refl _ _) (World.block_lt_of_cell? _ _ (hc2 (l * 2) (by omega)))
        have S2 := Lib.hid (hs.old HKK.out hB2)
        obtain ⟨-, y0, y1⟩ := box2 wr (smi cs k) (ski cs k) 35
        have t5 := (S2.out.ru.cell 0).trans (show _ = some (Value.int .i64 (q : Int)) from rfl)
        have t1 := (S2.out.rn.cell 0).trans (show _ = some (Value.slice (some ⟨b2, off2, none⟩) m cap2) from rfl)
        have t0 := S2.out.rs.cell 0
        rw [HL.out] at t0
        replace t0 := t0.trans (show _ = some (Value.slice (some ⟨g', 0, none⟩) l c') from rfl)
        clear hc1 hc2 hbel hs hS hB2
        have u0 := cell_regrown t0
        have u1 := cell_regrown t1
        have u5 := cell_regrown t5
        have x0 := cell_regrown y0
        have x1 := cell_regrown y1
        have q0 := cell_regrown f0
        have q1 := cell_regrown f1
        have hlm2 : (l : Int) < (m : Int) := by omega
        have hbt := bit_test0 q k HM.out.1
        rw [HM.out.2 k] at hbt
        have HO : Hid (okAt cs ds p k = (!memB p (k : Int) && srB (smi cs k) (ski cs k) (smi ds l) (ski ds l))) := Lib.hid (by rw [okAt, HL.out])
        have HNo := Lib.hid fun h => servsTo_no (cs := cs) (ds := ds) (n := n) (d := d) (p := p) (k := k) h
        have HYes := Lib.hid fun h => servsTo_yes (cs := cs) (ds := ds) (n := n) (d := d) (p := p) (k := k) h
        cases hm : memB p (k : Int) with
        | true =>
          rw [hm] at hbt
          have HN := Lib.hid (HNo.out (by rw [HO.out, hm]; rfl))
          clear HNo HYes HO
          go_wp2_with fail
          refine wp_region_quiet_below (by kernel_rfl) (by kernel_rfl) ?_
          repeat (any_goals (first | go_big_quiet_step ((fail)) | quiet_step ((fail))))
          refine wpQuiet_nil ?_
          intro _ hw'
          obtain ⟨⟨dq, osq⟩, hw''⟩ := hw'
          subst hw''
          have bq := below_regrown (wr.alloc (.cells #[.int .i64 (smi cs k), .int .i64 (ski cs k)] 35)) dq osq
          revert bq
          generalize Go.Sort.grow (redrawn (wr.alloc (.cells #[.int .i64 (smi cs k), .int .i64 (ski cs k)] 35)) dq) osq = wq
          intro bq
          clear t0 t1 t5 u0 u1 u5 x0 x1 y0 y1 q0 q1 d0 d1 f0 f1
          go_wp2_with fail
          go_roundw
          case rel => exact ⟨k + 1, by omega, by go_num, Lib.hid ⟨_, _, by rw [HN.out]; exact S2.out.old HKK.out bq⟩⟩
          case measure => simp [intOf]; omega
        | false =>
          rw [hm] at hbt
          cases hs : srB (smi cs k) (ski cs k) (smi ds l) (ski ds l) with
          | false =>
            have HN := Lib.hid (HNo.out (by rw [HO.out, hm, hs]; rfl))
            clear HNo HYes HO
            go_wp2_with fail
            refine wp_region_quiet_below (by kernel_rfl) (by kernel_rfl) ?_
            repeat (any_goals (first | go_big_quiet_step (((go_at_call 67; exact Calls.regrown_of (implServes_is _ _ _ _ _ hs)))) | quiet_step (((go_at_call 67; exact Calls.regrown_of (implServes_is _ _ _ _ _ hs))))))
            refine wpQuiet_nil ?_
            intro _ hw'
            obtain ⟨⟨dq, osq⟩, hw''⟩ := hw'
            subst hw''
            have bq := below_regrown (wr.alloc (.cells #[.int .i64 (smi cs k), .int .i64 (ski cs k)] 35)) dq osq
            revert bq
            generalize Go.Sort.grow (redrawn (wr.alloc (.cells #[.int .i64 (smi cs k), .int .i64 (ski cs k)] 35)) dq) osq = wq
            intro bq
            clear t0 t1 t5 u0 u1 u5 x0 x1 y0 y1 q0 q1 d0 d1 f0 f1
            go_wp2_with fail
            go_roundw
            case rel => exact ⟨k + 1, by omega, by go_num, Lib.hid ⟨_, _, by rw [HN.out]; exact S2.out.old HKK.out bq⟩⟩
            case measure => simp [intOf]; omega
          | true =>
            have HN := Lib.hid (HYes.out (by rw [HO.out, hm, hs]; rfl))
            clear HNo HYes HO
            go_wp2_with fail
            refine wp_region_quiet_below (by kernel_rfl) (by kernel_rfl) ?_
            repeat (any_goals (first | go_big_quiet_step (((go_at_call 67; exact Calls.regrown_of (implServes_is _ _ _ _ _ hs)))) | quiet_step (((go_at_call 67; exact Calls.regrown_of (implServes_is _ _ _ _ _ hs))))))
            refine wpQuiet_nil ?_
            intro _ hw'
            obtain ⟨⟨dq, osq⟩, hw''⟩ := hw'
            subst hw''
            have bq := below_regrown (wr.alloc (.cells #[.int .i64 (smi cs k), .int .i64 (ski cs k)] 35)) dq osq
            revert bq
            generalize Go.Sort.grow (redrawn (wr.alloc (.cells #[.int .i64 (smi cs k), .int .i64 (ski cs k)] 35)) dq) osq = wq
            intro bq
            clear t0 t1 t5 u0 u1 u5 x0 x1 y0 y1 q0 q1 d0 d1 f0 f1
            have S3 := Lib.hid (S2.out.old HKK.out bq)
            clear bq S2
            have t5 := (S3.out.ru.cell 0).trans (show _ = some (Value.int .i64 (q : Int)) from rfl)
            have z5 := S3.out.ru.frozen 0
            have HBS := bit_set q k HM.out.1 (by omega)
            go_wp2_with fail
            go_region
            go_upto_region 7 with (fail)
            clear t5 z5
            have S4 := Lib.hid ((S3.out.mask HKK.out hz (q ||| 2 ^ k)).old HKK.out (Below.refl _ _).drew)
            clear S3 HBS
            revert S4
            generalize (wq.setCell ⟨z + 5, 0, none⟩ (.int .i64 ((q ||| 2 ^ k : Nat) : Int))).drew = w4
            intro S4
            have OW := S4.out.ow
            rw [HL.out] at OW
            replace OW := Lib.hid OW
            have hsz := S4.out.sz
            have hz4 : z + 3 ≤ w4.heap.size := by omega
            have hap : some g' ≠ some (z + 4) := fun e => by cases e; have := S4.out.ap; omega
            have t0 := S4.out.rs.cell 0
            rw [HL.out] at t0
            replace t0 := t0.trans (show _ = some (Value.slice (some ⟨g', 0, none⟩) l c') from rfl)
            have hp0 : p.length ≤ 1000 := by have := HL.out; omega
            go_wp2_with (at_builtin; refine wpList_push2 Try.underlying38 OW.out (by rfl) (by rfl) (by rfl) (by rfl) (by omega) hz4 ?_; intro g2 c2 w5 ow5 hg5 hn5; have S5 := Lib.hid (S4.out.push HKK.out hz ow5 hg5 (by rw [HL.out]; exact hn5)); have r5 := S4.out.rs.grown' hg5 hap; have t4 := (r5.cell 0).trans (show _ = some (Value.slice (some ⟨g', 0, none⟩) p.length c') from rfl); have z4 := r5.frozen 0; have tf := S5.out.rf.cell 0; clear ow5 hg5 hn5 r5)
            clear t0 t4 z4 tf OW S4
            have HMEM : Hid (∀ s, s ∈ servs cs ds n d (p ++ [(k : Int)]) → s ∈ servs cs ds n m []) := Lib.hid fun s hs' => HME.out s (by
              rw [servs_succ, servsTo, mem_cat]
              exact ⟨k, hlt, by rw [if_pos (by rw [okAt, HL.out, hm, hs]; rfl)]; exact hs'⟩)
            refine (HI.out (p ++ [(k : Int)]) g2 c2 (q ||| 2 ^ k) _ _ (by have := HD.out; simp; omega) HMEM.out (mask_push HM.out (by omega)) S5.out).mono ?_
            rintro e w6 ⟨rfl, h6⟩
            obtain ⟨g3, c3, s6⟩ := h6.out
            have S6 := Lib.hid s6
            have t0 := s6.rs.cell 0
            rw [List.length_append, List.length_singleton, HL.out] at t0
            replace t0 := t0.trans (show _ = some (Value.slice (some ⟨g3, 0, none⟩) (l + 1) c3) from rfl)
            have z0 := s6.rs.frozen 0
            have hc3 : l + 1 ≤ c3 ∧ c3 ≤ 9223372036854775807 := by
              obtain ⟨_, _, e9, _, _, hh1, hh2, _⟩ := s6.ow.form (by simp)
              cases e9
              rw [List.length_append, List.length_singleton, HL.out] at hh1
              exact ⟨hh1, hh2⟩
            obtain ⟨hc4, hc5⟩ := hc3
            clear h6 s6 S5 HMEM
            go_upto_region 10 with (fail)
            have S7 := S6.out.pop HKK.out hz
            rw [HL.out] at S7
            replace S7 := Lib.hid S7
            clear t0 z0 S6
            revert S7
            generalize (w6.setCell ⟨z + 4, 0, none⟩ (.slice (some ⟨g3, 0, none⟩) l c3)) = w7
            intro S7
            have t5 := (S7.out.ru.cell 0).trans (show _ = some (Value.int .i64 ((q ||| 2 ^ k : Nat) : Int)) from rfl)
            have z5 := S7.out.ru.frozen 0
            have HBC := bit_clear q k HM.out.1 (by omega) (by rw [HM.out.2 k]; exact hm)
            go_region
            clear t5 z5 HBC
            have S8 := Lib.hid ((S7.out.mask HKK.out hz q).old HKK.out (Below.refl _ _).drew)
            clear S7
            go_wp2_with fail
            go_roundw
            case rel => exact ⟨k + 1, by omega, by go_num, Lib.hid ⟨g3, c3, by rw [HN.out, ← List.append_assoc]; exact S8.out⟩⟩
            case measure => simp [intOf]; omega
      · obtain rfl : n = k := by omega
        go_wp2_with fail
        go_end0
        exact ⟨rfl, hS⟩

set_option maxRecDepth 100000 in
set_option maxHeartbeats 4000000 in
theorem eachServing_any (F : FuncId) (hent : ∀ args W, Sem.run Try.prog (callFunc F args) W = .ok (.enter F args) W) (caps : Array Value) (W0 : World) (v1 v2 : Value) (K : List (List Int) → Nat → World → Prop) (cs ds : List Int) (n m h1 h2 : Nat) (w : World) (hw : Below W0.heap.size W0 w) (hn10 : n ≤ 10) (hm5 : m ≤ 5)
    (hv1 : SlF 2 W0 h1 v1 cs n) (hv2 : SlF 2 W0 h2 v2 ds m)
    (HK : ∀ V g g' W W', K V g W → kp w.heap.size g W W' → (g' = g ∨ W.heap.size ≤ g') → K V g' W')
    (HK0 : ∀ g W, w.heap.size ≤ g → Below w.heap.size w W → K [] g W)
    (HF : ∀ (p : List Int) (g c q : Nat) (V : List (List Int)) (W : World), p ∈ servs cs ds n m [] → Sv W0 w.heap.size v1 v2 (.func (.func F) #[] caps) K p g c q V W →
      Calls Try.prog F (#[.slice (some ⟨g, 0, none⟩) p.length c] ++ caps) W fun e W' => e = .returned (.tuple #[]) ∧ Hid (K (V ++ [p]) g W' ∧ Cb W0.heap.size w.heap.size W W')) :
    Calls Try.prog 73 #[v1, v2, .func (.func F) #[] caps] w
      fun e W' => e = .returned (.tuple #[]) ∧ Hid (∃ g, K (servs cs ds n m []) g W' ∧ Below W0.heap.size W0 W') := by
  obtain ⟨z, hz⟩ : ∃ z, w.heap.size = z := ⟨_, rfl⟩
  have hzz : W0.heap.size ≤ z := by rw [← hz]; exact hw.size
  rw [hz] at HK HK0 HF
  have HM := Lib.hid (from_any F hent caps W0 z v1 v2 K cs ds n m h1 h2 hzz hn10 hm5 hv1 hv2 HK HF m [])
  obtain ⟨a1, cap1, rfl, -⟩ := hv1
  obtain ⟨a2, cap2, rfl, -⟩ := hv2
  have nx := fun (X : World) (o : Obj) => (Below.refl X.heap.size X).alloc (Nat.le_refl _) o
  obtain ⟨wA, hA⟩ : ∃ W, w.alloc (.cells #[.slice a1 n cap1] 25) = W := ⟨_, rfl⟩
  obtain ⟨wB, hB⟩ : ∃ W, wA.alloc (.cells #[.slice a2 m cap2] 25) = W := ⟨_, rfl⟩
  obtain ⟨wC, hC⟩ : ∃ W, wB.alloc (.cells #[.func (.func F) #[] caps] 73) = W := ⟨_, rfl⟩
  obtain ⟨wD, hD⟩ : ∃ W, wC.alloc (.cells #[] 3) = W := ⟨_, rfl⟩
  obtain ⟨wE, hE⟩ : ∃ W, wD.alloc (.cells #[.slice (some ⟨z + 3, 0, none⟩) 0 0] 38) = W := ⟨_, rfl⟩
  obtain ⟨wF, hF⟩ : ∃ W, wE.alloc (.cells #[.int .i64 0] 3) = W := ⟨_, rfl⟩
  obtain ⟨wG, hG⟩ : ∃ W, wF.alloc (.cells #[.func (.func 94) #[] #[.pointer (some ⟨z + 4, 0, none⟩), .pointer (some ⟨z + 1, 0, none⟩), .pointer (some ⟨z + 2, 0, none⟩), .pointer (some ⟨z, 0, none⟩), .pointer (some ⟨z + 5, 0, none⟩), .pointer (some ⟨z + 6, 0, none⟩)]] 1) = W := ⟨_, rfl⟩
  have zA : wA.heap.size = z + 1 := by rw [← hA, World.size_alloc, hz]
  have zB : wB.heap.size = z + 2 := by rw [← hB, World.size_alloc, zA]
  have zC : wC.heap.size = z + 3 := by rw [← hC, World.size_alloc, zB]
  have zD : wD.heap.size = z + 4 := by rw [← hD, World.size_alloc, zC]
  have zE : wE.heap.size = z + 5 := by rw [← hE, World.size_alloc, zD]
  have zF : wF.heap.size = z + 6 := by rw [← hF, World.size_alloc, zE]
  have bA : Below w.heap.size w wA := hA ▸ nx _ _
  have bB : Below wA.heap.size wA wB := hB ▸ nx _ _
  have bC : Below wB.heap.size wB wC := hC ▸ nx _ _
  have bD : Below wC.heap.size wC wD := hD ▸ nx _ _
  have bE : Below wD.heap.size wD wE := hE ▸ nx _ _
  have bF : Below wE.heap.size wE wF := hF ▸ nx _ _
  have bG : Below wF.heap.size wF wG := hG ▸ nx _ _
  have rA : Row wA z 25 #[.slice a1 n cap1] := by rw [← hA, ← hz]; exact Row.new _ _ _
  have rB : Row wB (z + 1) 25 #[.slice a2 m cap2] := by rw [← hB, ← zA]; exact Row.new _ _ _
  have rC : Row wC (z + 2) 73 #[.func (.func F) #[] caps] := by rw [← hC, ← zB]; exact Row.new _ _ _
  have oD : OwI wD (z + 3) (.slice (some ⟨z + 3, 0, none⟩) 0 0) [] := by
    have := OwI.empty wC (z + 3) (by rw [zC]; exact Nat.le_refl _)
    rw [zC, hD] at this
    exact this
  have rE : Row wE (z + 4) 38 #[.slice (some ⟨z + 3, 0, none⟩) 0 0] := by rw [← hE, ← zD]; exact Row.new _ _ _
  have rF : Row wF (z + 5) 3 #[.int .i64 0] := by rw [← hF, ← zE]; exact Row.new _ _ _
  have rG : Row wG (z + 6) 1 #[.func (.func 94) #[] #[.pointer (some ⟨z + 4, 0, none⟩), .pointer (some ⟨z + 1, 0, none⟩), .pointer (some ⟨z + 2, 0, none⟩), .pointer (some ⟨z, 0, none⟩), .pointer (some ⟨z + 5, 0, none⟩), .pointer (some ⟨z + 6, 0, none⟩)]] := by rw [← hG, ← zF]; exact Row.new _ _ _
  have bAll : Below w.heap.size w wG := nextW (nextW (nextW (nextW (nextW (nextW bA bB) bC) bD) bE) bF) bG
  have S0 : Sv W0 z (.slice a1 n cap1) (.slice a2 m cap2) (.func (.func F) #[] caps) K [] (z + 3) 0 0 [] wG :=
    ⟨nextW hw bAll, (((((rA.old bB).old bC).old bD).old bE).old bF).old bG, ((((rB.old bC).old bD).old bE).old bF).old bG, (((rC.old bD).old bE).old bF).old bG, rG, (rE.old bF).old bG, ((oD.below bE).below bF).below bG, .inl rfl, rF.old bG, HK0 _ _ (by omega) (hz ▸ bAll)⟩
  have HC := Lib.hid (HM.out (z + 3) 0 0 [] wG (by simp) (fun s hs => hs) mask_nil S0)
  clear rA rB rC rE rF rG oD bA bB bC bD bE bF bG bAll S0 HM nx HK HK0 HF hent
  clear zA zB zC zD zE zF
  subst hG
  subst hF
  subst hE
  subst hD
  subst hC
  subst hB
  subst hA
  subst hz
  go_enter Try.func73, Try.ntmps73
  go_upto_region 5 with (fail)
  go_wp2_with fail
  refine HC.out.mono ?_
  rintro e w1 ⟨rfl, h1⟩
  have H1 := h1.out
  rw [List.nil_append] at H1
  obtain ⟨g, c, hs⟩ := H1
  have HS := Lib.hid hs
  clear h1 hs HC
  go_wp2_with fail
  go_end0
  exact ⟨rfl, Lib.hid ⟨g, HS.out.kk, HS.out.bel⟩⟩

end Go.Proofs.Ythbkimojbbkeiaa
