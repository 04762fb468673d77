/- Contract: SparesTake of the program. -/
import Derived.Test.YthbkimojbbkeiaaSoH
import Derived.Test.YthbkimojbbkeiaaTkPlain
import Derived.Deep.RegionLaw
namespace Go.Proofs.Ythbkimojbbkeiaa
open Go.RowKit

theorem OwP.setL {B g n c cap : Nat} : ∀ (zs ys : List Int) (o : Nat) (w : World), OwP w B (.slice (some ⟨g, 0, none⟩) n cap) ys c → OwP (w.setCells g o (zs.map (Value.int .i64))) B (.slice (some ⟨g, 0, none⟩) n cap) (ovl ys o zs) c
  | [], _, _, _, h => h
  | z :: zs, ys, o, _, h => OwP.setL zs (ys.set o z) (o + 1) _ (h.set o z)
theorem Below.setL {B g : Nat} {w0 : World} (hg : B ≤ g) : ∀ (zs : List Int) (o : Nat) (w : World), Below B w0 w → Below B w0 (w.setCells g o (zs.map (Value.int .i64)))
  | [], _, _, h => h
  | _ :: zs, o, _, h => Below.setL hg zs (o + 1) _ (h.setCell (p := ⟨g, o, none⟩) hg _)
/-- The same list, cut. -/
theorem OwP.cut {w : World} {B g n cap : Nat} {ys : List Int} (h : OwP w B (.slice (some ⟨g, 0, none⟩) n cap) ys n) {k : Nat} (hk : k ≤ n) : OwP w B (.slice (some ⟨g, 0, none⟩) k cap) (ys.take (k * 2)) k := by
  obtain ⟨hl, hv⟩ := h
  refine ⟨by simp at hl ⊢; omega, ?_⟩
  rcases hv with ⟨e, h0⟩ | ⟨g', cap', cur, e, hB, hg, hc1, hc2, hc3, hc4⟩
  · cases e
  · cases e
    refine .inr ⟨g, cap, cur, rfl, hB, hg, by omega, hc2, hc3, ?_⟩
    rw [List.map_take, ← hc4, List.take_take, Nat.min_eq_left (by omega)]

theorem run_clear2 (w : World) (ty : TypeId) (g o c : Nat) (h0 : (w.cell? ⟨g, o, none⟩).isSome = true) (h1 : (w.cell? ⟨g, o + 1, none⟩).isSome = true) (f0 : w.frozen? ⟨g, o, none⟩ = false) (f1 : w.frozen? ⟨g, o + 1, none⟩ = false) :
    (Builtin.clear_ #[25] ty #[.slice (some ⟨g, o, none⟩) 1 c]).run Try.prog w = .ok (.tuple #[]) (w.setCells g o ([0, 0].map (Value.int .i64))) := by
  have hz : (zeroValue 35).run Try.prog w = .ok (.agg #[.int .i64 0, .int .i64 0]) w := by
    obtain ⟨i, hi, hz, hs, hb⟩ := info_parts infoSpareD
    simp [zeroValue, typeInfo, hi, hz]
  have hzc : (Builtin.zeroCells (Value.agg #[.int .i64 0, .int .i64 0]).cells 1).toList = [.int .i64 0, .int .i64 0] := by kernel_rfl
  have hst := run_storeCells_cells (P := Try.prog) g o [.int .i64 0, .int .i64 0] 0 w (by
    intro j hj
    match j, hj with
    | 0, _ => exact h0
    | 1, _ => exact h1) (by
    intro j hj
    match j, hj with
    | 0, _ => exact f0
    | 1, _ => exact f1) (by intro v hv; simp at hv; subst hv; rfl)
  simp only [Nat.add_zero] at hst
  simp [Builtin.clear_, run_underlying Try.underlying25, hz, hzc, hst]

set_option maxRecDepth 100000 in
set_option maxHeartbeats 4000000 in
theorem deleteP_any (g n cap K B : Nat) (ys : List Int) (w : World) (hK : K < n) (hn : n ≤ 10) (h : OwP w B (.slice (some ⟨g, 0, none⟩) n cap) ys n) :
    Calls Try.prog 76 #[.slice (some ⟨g, 0, none⟩) n cap, .int .i64 K, .int .i64 ((K : Int) + 1)] w fun e w' =>
      e = .returned (.slice (some ⟨g, 0, none⟩) (n - 1) cap) ∧ Hid (Below B w w') ∧ Hid (OwP w' B (.slice (some ⟨g, 0, none⟩) (n - 1) cap) (del ys K) (n - 1)) := by
  have HO := Lib.hid h
  have hl : ys.length = n * 2 := h.form0.elim fun _ h => h.elim fun _ h => h.2
  obtain ⟨g', cap', e, hBg, hgw, hcap, hcap2, hcl, hfz⟩ := h.form (by omega)
  cases e
  have HL := Lib.hid hl
  obtain ⟨news, hnews⟩ : ∃ news, news = (ys.drop ((K + 1) * 2)).map (Value.int .i64) := ⟨_, rfl⟩
  have hlen : news.length = (n - (K + 1)) * 2 := by rw [hnews]; simp; omega
  have hget : ∀ t, t < (n - (K + 1)) * 2 → news[t]? = some (.int .i64 (gi ys ((K + 1) * 2 + t))) := by
    intro t ht
    rw [hnews, List.getElem?_map, List.getElem?_drop, List.getElem?_eq_getElem (by omega), gi_eq (by omega)]
    rfl
  obtain ⟨A, hA, hsrc⟩ : ∃ A : Addr, (if cap = K + 1 then some (⟨g, 0, none⟩ : Addr) else some ⟨g, (K + 1) * 2, none⟩) = some A ∧ Hid (∀ t u, news[t]? = some u → w.drew.cell? (A.add t) = some u) := by
    by_cases hk : cap = K + 1
    · refine ⟨⟨g, 0, none⟩, by simp [hk], fun t u hu => ?_⟩
      have h0 : news.length = 0 := by rw [hlen]; omega
      rw [List.length_eq_zero_iff.1 h0] at hu
      simp at hu
    · refine ⟨⟨g, (K + 1) * 2, none⟩, by simp [hk], fun t u hu => ?_⟩
      have ht : t < (n - (K + 1)) * 2 := by
        have := (List.getElem?_eq_some_iff.1 hu).1
        rwa [hlen] at this
      rw [hget t ht] at hu
      rw [addr_add]
      exact (hcl ((K + 1) * 2 + t) (by omega)).trans hu
  have s1 : Hid (news.length = (n - (K + 1)) * 2) := hlen
  have s2 : Hid (∀ u ∈ news, u.oneCell' = true) := by
    intro u hu
    rw [hnews] at hu
    obtain ⟨x, _, rfl⟩ := List.mem_map.1 hu
    rfl
  have s3 : Hid (∀ t, t < news.length → (w.drew.cell? ⟨g, 0 + K * 2 + t, none⟩).isSome = true ∧ w.drew.frozen? ⟨g, 0 + K * 2 + t, none⟩ = false) := by
    intro t ht
    rw [hlen] at ht
    rw [Nat.zero_add]
    exact ⟨by show (w.cell? _).isSome = true; rw [hcl (K * 2 + t) (by omega)]; rfl, hfz _⟩
  obtain ⟨W1, hW1⟩ : ∃ W1, W1 = w.drew.setCells g (0 + K * 2) news := ⟨_, rfl⟩
  have hO1 : OwP W1 B (.slice (some ⟨g, 0, none⟩) n cap) (ovl ys (K * 2) (ys.drop ((K + 1) * 2))) n := by
    rw [hW1, hnews, Nat.zero_add]
    exact OwP.setL _ _ _ _ (h.drewN 1)
  have hB1 : Below B w W1 := by
    rw [hW1, hnews]
    exact Below.setL hBg _ _ _ (below_drewN (Below.refl B w) 1)
  obtain ⟨g', cap', e, -, -, -, -, hcl1, hfz1⟩ := hO1.form (by omega)
  cases e
  have hcr : ∀ ty c, (Builtin.clear_ #[25] ty #[.slice (some ⟨g, (n - 1) * 2, none⟩) 1 c]).run Try.prog W1 = .ok (.tuple #[]) (W1.setCells g ((n - 1) * 2) ([0, 0].map (Value.int .i64))) :=
    fun ty c => run_clear2 W1 ty g ((n - 1) * 2) c (by rw [hcl1 _ (by omega)]; rfl) (by rw [hcl1 _ (by omega)]; rfl) (hfz1 _) (hfz1 _)
  have hO2 := Lib.hid (OwP.setL [0, 0] _ ((n - 1) * 2) W1 hO1)
  have hB2 := Lib.hid (Below.setL hBg [0, 0] ((n - 1) * 2) W1 hB1)
  have hOD : Hid (OwP (W1.setCells g ((n - 1) * 2) ([0, 0].map (Value.int .i64))) B (.slice (some ⟨g, 0, none⟩) (n - 1) cap) (del ys K) (n - 1)) := Lib.hid (by
    have := hO2.out.cut (k := n - 1) (by omega)
    rw [take_ovl _ _ _ _ (Nat.le_refl _), del_ovl hl hK] at this
    exact this)
  clear hO2
  have hW : Hid (W1 = w.drew.setCells g (0 + K * 2) news) := hW1
  have e1 : ((K : Int) == (K : Int) + 1) = false := by rw [beq_eq_false_iff_ne]; omega
  have e2 : K + (n - (K + 1)) = n - 1 := by omega
  have e3 : n - (n - 1) = 1 := by omega
  have e4 : ((n - 1 : Nat) : Int) ≤ (n : Int) := by omega
  have e5 : (K : Int) + 1 ≤ (n : Int) := by omega
  have e6 : (n : Int) ≤ (cap : Int) := by omega
  have e7 : (K : Int) ≤ (cap : Int) := by omega
  have e8 : (K : Int) + 1 ≤ (cap : Int) := by omega
  have e9 : ((K : Int) + 1).toNat = K + 1 := by omega
  have e0 : (0 : Int) ≤ (K : Int) + 1 := by omega
  have hroom : K + (n - (K + 1)) ≤ cap := by omega
  obtain ⟨i0, hi0, hz0, hsz0, hb0⟩ := info_parts infoSpareD
  clear hW1 hO1 hB1 hcl1 hfz1 hget hnews hlen hcl hfz h hl hz0 hb0
  go_enter Try.func76, Try.ntmps76
  go_wp2_with fail
  go_region_law (refine step_append_room rfl (.tmp 22) (.tmp 25) 25 rfl 35 i0 2 Try.underlying25 hi0 hsz0 g 0 K cap (by simp [Act.eval, Act.put]) A (n - (K + 1)) (cap - (K + 1)) news (by simp [Act.eval, Act.put]) s1.out hsrc.out s2.out hroom s3.out ?_; rw [← hW.out, e2])
  all_goals
    go_wp2
    go_ret
    exact ⟨rfl, hB2, hOD⟩

set_option maxRecDepth 100000 in
set_option maxHeartbeats 4000000 in
theorem implSparesTake_b (v : Value) (k miles : Int) (cs : List Int) (n hi : Nat) (w : World) (hv : SlF 2 w hi v cs n) :
    Calls Try.prog 39 #[v, .int .i64 k, .int .i64 miles] w fun e w' => ∃ v', e = .returned (.tuple #[v', .bool (tkB cs n k miles)]) ∧ Hid (Below w.heap.size w w') ∧ Hid (WrF 2 35 w' w.heap.size w'.heap.size v' (tkL cs n k miles) (tkN cs n k miles)) := by
  have V := Lib.hid hv
  obtain ⟨a, cap, rfl, hl, hn, hcap, hcap2, hc⟩ := hv
  have HL := Lib.hid hl
  have HC0 := Lib.hid hc
  clear hl hc
  have hwn : IntKind.i64.wrap ((n : Int) - 1) = (n : Int) - 1 := IntWalk.i64_in _ (by omega)
  cases e1 : spB 10 cs n with
  | false =>
    have HR := Lib.hid (tk_no (cs := cs) (n := n) (k := k) (miles := miles) (by simp [tkB, e1]))
    go_enter Try.func39, Try.ntmps39
    go_wp2_with fail
    refine (implSparesValid_is _ cs n _ _ V.out e1).mono ?_
    rintro e w1 ⟨rfl, b1⟩
    have B1 := Lib.hid b1
    clear b1
    go_wp2_with fail
    go_ret2
    exact ⟨_, by rw [HR.out.1]; rfl, B1, by rw [HR.out.2.1, HR.out.2.2]; exact WrF.nil _ _ _ _ _⟩
  | true =>
    have hn10 := (spB_true.1 e1).1
    cases e2 : inB k 0 ((n : Int) - 1) with
    | false =>
      have HR := Lib.hid (tk_no (cs := cs) (n := n) (k := k) (miles := miles) (by simp [tkB, e2]))
      go_enter Try.func39, Try.ntmps39
      go_wp2_with fail
      refine (implSparesValid_is _ cs n _ _ V.out e1).mono ?_
      rintro e w1 ⟨rfl, b1⟩
      have B1 := Lib.hid b1
      clear b1
      go_wp2_with fail
      refine (within_is _ _ _ _ e2).mono ?_
      rintro e _ ⟨rfl, rfl⟩
      go_wp2_with fail
      go_ret2
      exact ⟨_, by rw [HR.out.1]; rfl, B1, by rw [HR.out.2.1, HR.out.2.2]; exact WrF.nil _ _ _ _ _⟩
    | true =>
      have hb := inB_true.1 e2
      obtain ⟨K, rfl⟩ := Int.eq_ofNat_of_zero_le hb.1
      have hKn : K < n := by omega
      have hKn2 : (K : Int) < (n : Int) := by omega
      have hsp := (spB_true.1 e1).2 K hKn
      have hs1 := hsp.1.1
      have hs2 := hsp.1.2
      obtain ⟨b, off, rfl, hbh, hc⟩ := HC0.out (by omega)
      have hbw := World.block_lt_of_cell? w _ (hc (K * 2) (by omega))
      obtain ⟨d0, d1⟩ := cellsS hc hKn (Below.refl w.heap.size w) hbw
      clear hc hsp hb HC0
      cases e3 : inB miles 1 (smi cs K) with
      | false =>
        have HR := Lib.hid (tk_no (cs := cs) (n := n) (k := (K : Int)) (miles := miles) (by simp [tkB, e3]))
        go_enter Try.func39, Try.ntmps39
        go_wp2_with fail
        refine (implSparesValid_is _ cs n _ _ V.out e1).mono ?_
        rintro e w1 ⟨rfl, b1⟩
        have B1 := Lib.hid b1
        replace d0 := cellB d0 b1
        replace d1 := cellB d1 b1
        clear b1
        go_wp2_with fail
        refine (within_is _ _ _ _ e2).mono ?_
        rintro e _ ⟨rfl, rfl⟩
        go_wp2_with fail
        refine (within_is _ _ _ _ e3).mono ?_
        rintro e _ ⟨rfl, rfl⟩
        go_wp2_with fail
        go_ret2
        exact ⟨_, by rw [HR.out.1]; rfl, B1, by rw [HR.out.2.1, HR.out.2.2]; exact WrF.nil _ _ _ _ _⟩
      | true =>
        have hm := inB_true.1 e3
        have HT : Hid (tkB cs n (K : Int) miles = true) := Lib.hid (by simp [tkB, e1, e2, e3])
        have w1k : IntKind.i64.wrap (smi cs K - miles) = smi cs K - miles := IntWalk.i64_in _ (by omega)
        go_enter Try.func39, Try.ntmps39
        go_wp2_with fail
        refine (implSparesValid_is _ cs n _ _ V.out e1).mono ?_
        rintro e w1 ⟨rfl, b1⟩
        have B1 := Lib.hid b1
        have V1 := Lib.hid (V.out.old b1)
        have z1 := b1.size
        replace d0 := cellB d0 b1
        replace d1 := cellB d1 b1
        clear b1
        go_wp2_with fail
        refine (within_is _ _ _ _ e2).mono ?_
        rintro e _ ⟨rfl, rfl⟩
        go_wp2_with fail
        refine (within_is _ _ _ _ e3).mono ?_
        rintro e _ ⟨rfl, rfl⟩
        go_wp2_with fail
        refine (cloneA_any _ n _ cs _ (by omega) V1.out).mono ?_
        rintro e w2 ⟨v', rfl, o2, b2⟩
        have B2 := Lib.hid (B1.out.trans (b2.out.mono z1))
        obtain ⟨g, cap', rfl, hBg, -, hcp, hcp2, hcl, hfz⟩ := o2.out.form (by omega)
        have c0 : w2.cell? ⟨g, K * 2, none⟩ = some (.int .i64 (smi cs K)) := hcl _ (by omega)
        have f0 := hfz (K * 2)
        have HO := Lib.hid (o2.out.set (K * 2) (smi cs K - miles))
        have HB := Lib.hid (B2.out.setCell (p := ⟨g, K * 2, none⟩) (Nat.le_trans z1 hBg) (.int .i64 (smi cs K - miles)))
        have HSET := Lib.hid (take_set_drop (u := smi cs K - miles) HL.out hKn)
        have HDEL := Lib.hid (del_set (cs := cs) (K := K) (u := smi cs K - miles))
        clear b2 hcl hfz o2 d0 d1 V1 B1 B2
        by_cases hlt : miles < smi cs K
        · have t1 : (smi cs K - miles == 0) = false := by rw [beq_eq_false_iff_ne]; omega
          have HR : Hid (tkB cs n (K : Int) miles = true ∧ tkL cs n (K : Int) miles = cs.set (K * 2) (smi cs K - miles) ∧ tkN cs n (K : Int) miles = n) := Lib.hid ⟨HT.out, by simp only [tkL, HT.out, if_true]; rw [HSET.out]; simp [hlt], by simp [tkN, HT.out, hlt]; omega⟩
          have t2 : ¬ smi cs K - miles = 0 := by omega
          go_wp2_with fail
          refine (clipP_any (some ⟨g, 0, none⟩) n cap' _ hcp).mono ?_
          rintro e _ ⟨rfl, rfl⟩
          go_wp2_with fail
          go_ret2
          exact ⟨_, by rw [HR.out.1]; rfl, HB, by rw [HR.out.2.1, HR.out.2.2]; exact Lib.hid ((HO.out.wr (by omega)).clip.mono z1 (Nat.le_refl _))⟩
        · have t1 : (smi cs K - miles == 0) = true := by rw [beq_iff_eq]; omega
          have HR : Hid (tkB cs n (K : Int) miles = true ∧ tkL cs n (K : Int) miles = del (cs.set (K * 2) (smi cs K - miles)) K ∧ tkN cs n (K : Int) miles = n - 1) := Lib.hid ⟨HT.out, by rw [HDEL.out]; simp [tkL, HT.out, hlt, del], by simp [tkN, HT.out, hlt]; omega⟩
          have hw1 : IntKind.i64.wrap ((K : Int) + 1) = (K : Int) + 1 := IntWalk.i64_in _ (by omega)
          go_wp2_with fail
          refine (deleteP_any g n cap' K _ _ _ hKn (by omega) HO.out).mono ?_
          rintro e w3 ⟨rfl, b3, o3⟩
          have HB3 := Lib.hid (HB.out.trans (b3.out.mono z1))
          have hcp3 : n - 1 ≤ cap' := by omega
          clear b3 HO HB
          go_wp2_with fail
          refine (clipP_any (some ⟨g, 0, none⟩) (n - 1) cap' _ hcp3).mono ?_
          rintro e _ ⟨rfl, rfl⟩
          go_wp2_with fail
          go_ret2
          exact ⟨_, by rw [HR.out.1]; rfl, HB3, by rw [HR.out.2.1, HR.out.2.2]; exact Lib.hid ((o3.out.wr (by omega)).clip.mono z1 (Nat.le_refl _))⟩

theorem tkN_le {cs : List Int} {n : Nat} {k miles : Int} : tkN cs n k miles ≤ n := by
  unfold tkN
  split
  · rename_i h
    have h2 : inB k 0 ((n : Int) - 1) = true := by simp only [tkB, Bool.and_eq_true] at h; exact h.2.1
    have := inB_true.1 h2
    split <;> omega
  · omega

end Go.Proofs.Ythbkimojbbkeiaa
