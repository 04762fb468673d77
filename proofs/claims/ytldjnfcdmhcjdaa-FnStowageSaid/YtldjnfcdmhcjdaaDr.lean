/- Draws: l92Orders, l91At. -/
import Derived.Test.YtldjnfcdmhcjdaaRd
import Derived.Test.YtldjnfcdmhcjdaaStack
namespace Go.Proofs.Ytldjnfcdmhcjdaa
open Go.RowKit

theorem OwI.form {w : World} {B : Nat} {v : Value} {ys : List Int} (h : OwI w B v ys) (hn : 0 < ys.length) :
    ∃ g cap, v = .slice (some ⟨g, 0, none⟩) ys.length cap ∧ B ≤ g ∧ g < w.heap.size ∧ ys.length ≤ cap ∧ cap ≤ 9223372036854775807 ∧ (∀ k, k < ys.length → w.cell? ⟨g, k, none⟩ = some (.int .i64 (gi ys k))) ∧ ∀ k, w.frozen? ⟨g, k, none⟩ = false := by
  obtain ⟨hl, hv⟩ := h
  rcases hv with ⟨_, h0⟩ | ⟨g, cap, cur, rfl, hB, hg, hc1, hc2, hc3, hc4⟩
  · omega
  · refine ⟨g, cap, rfl, hB, (Array.getElem?_eq_some_iff.1 hg).1, hc1, by unfold maxLen at hc2; omega, fun k hk => ?_, fun k => frozen_of_row w g k cur _ hg⟩
    rw [cell_of_row w g k cur _ (0, 0) hg]
    have : (cur.toList.take (ys.length * 1))[k]? = some (.int .i64 (gi ys k)) := by
      rw [hc4, List.getElem?_map]
      simp [gi, List.getElem?_eq_getElem hk]
    rw [List.getElem?_take] at this
    split at this
    · simpa using this
    · cases this

theorem OwI.set {w : World} {B g n cap : Nat} {ys : List Int} (h : OwI w B (.slice (some ⟨g, 0, none⟩) n cap) ys) (k : Nat) (u : Int) :
    OwI (w.setCell ⟨g, k, none⟩ (.int .i64 u)) B (.slice (some ⟨g, 0, none⟩) n cap) (ys.set k u) := by
  obtain ⟨hl, hv⟩ := h
  refine ⟨by simp, ?_⟩
  rcases hv with ⟨e, _⟩ | ⟨g', cap', cur, e, hB, hg, hc1, hc2, hc3, hc4⟩
  · cases e
  · cases e
    refine .inr ⟨g, cap, _, by simp, hB, heap_setCell_same w g k cur _ (.int .i64 u) hg, by simpa using hc1, hc2, by simpa using hc3, ?_⟩
    rw [List.length_set, Array.toList_setIfInBounds, List.take_set, hc4, List.map_set]

theorem gi_set {ys : List Int} {k j : Nat} {u : Int} (hk : k < ys.length) : gi (ys.set k u) j = if k = j then u else gi ys j := by
  simp only [gi, List.getElem?_set]
  split
  · rfl
  · rfl
theorem gi_app {ys : List Int} {j : Nat} {u : Int} : gi (ys ++ [u]) j = if j < ys.length then gi ys j else if j = ys.length then u else 0 := by
  simp only [gi]
  split
  · rename_i h; rw [List.getElem?_append_left h]
  · split
    · rename_i h; subst h; simp
    · rename_i h1 h2
      rw [List.getElem?_append_right (by omega)]
      have : (1 : Nat) ≤ j - ys.length := by omega
      rw [List.getElem?_eq_none (by simpa using this)]; rfl

/-- The reader stands at p, and only its block and new ones have turned since w0. -/
structure St (w0 w : World) (lo R p : Nat) : Prop where
  rd : Rd w lo R p
  gr : w0.grownBy w (some R)
  old : R < w0.heap.size

theorem St.start {w : World} {lo R p : Nat} (h : Rd w lo R p) : St w w lo R p := ⟨h, ⟨rfl, rfl, rfl, Nat.le_refl _, fun _ _ _ => rfl⟩, h.lt⟩
theorem Out.grow {w w' : World} {R : Nat} (h : Out R (R + 1) w w') : w.grownBy w' (some R) := ⟨h.os, h.tape, h.output, h.size, fun k hk hr => h.block k hk (by have : k ≠ R := fun e => hr (by rw [e]); omega)⟩
theorem St.pick {w0 w w' : World} {lo R p p' : Nat} (h : St w0 w lo R p) (hr : Rd w' lo R p') (ho : Out R (R + 1) w w') : St w0 w' lo R p' := ⟨hr, grow2 h.gr ho.grow, h.old⟩
theorem St.below {w0 w w' : World} {lo R p : Nat} (h : St w0 w lo R p) (hb : Below w0.heap.size w w') : St w0 w' lo R p :=
  ⟨h.rd.kept fun k hk => hb.block k (by have := h.old; omega), ⟨hb.os.trans h.gr.os, hb.tape.trans h.gr.tape, hb.output.trans h.gr.output, Nat.le_trans h.gr.size hb.size, fun k hk hr => (hb.block k hk).trans (h.gr.block k hk hr)⟩, h.old⟩
theorem OwI.pick {w w' : World} {B R : Nat} {v : Value} {ys : List Int} (h : OwI w B v ys) (ho : Out R (R + 1) w w') (hR : R < B) : OwI w' B v ys :=
  World.ownsRow.kept h ho.grow (.inr fun e => by have := (h.lt R e).1; omega)

theorem push_below {w wr w1 : World} {B : Nat} {ov : Value} {o : List Int} (hB : Below B w wr) (hs : B ≤ wr.heap.size) (hown : OwI wr B ov o) (hg : wr.grownBy w1 ov.ownBlock) : Below B w w1 :=
  hB.trans ((Below.refl B wr).grown hg hs (fun k hk => (hown.lt k hk).1))

/-- All numbers from 0 to b. -/
def Sm (ys : List Int) (b : Nat) : Prop := ∀ j, j < ys.length → 0 ≤ gi ys j ∧ gi ys j ≤ b

theorem l92Orders_any (lo R p most : Nat) (w : World) (hr : Rd w lo R p) (hp : p ≤ 900000) (hm : most ≤ 12) :
    Calls Try.prog 64 #[.pointer (some ⟨R, 0, none⟩), .int .i64 (most : Int)] w fun e w' => ∃ v xs p', e = .returned v ∧ p' ≤ p + 20 ∧ St w w' lo R p' ∧ Wr w' w.heap.size w'.heap.size v xs ∧ xs.length ≤ 13 := by
  have hRw := hr.lt
  have hb0 : Below w.heap.size w (w.alloc (.cells #[] 3)) := (Below.refl _ w).alloc (Nat.le_refl _) _
  have hs0 := (St.start hr).below hb0
  have ho0 := OwI.new w w.heap.size 0 #[] (Nat.le_refl _) (by unfold maxLen; omega) rfl
  have HS0 := Lib.hid hs0
  have HO0 := Lib.hid ho0
  clear hb0 hs0 ho0
  go_enter Try.func64, Try.ntmps64
  go_wp2_with fail
  refine (pick_any lo R p (most + 1) _ HS0.out.rd (by omega) (by omega) (by omega)).mono ?_
  rintro e w1 ⟨n, rfl, hn, d1, o1, z1⟩
  have st := HS0.out.pick d1 o1
  have own := HO0.out.pick o1 (by omega)
  have ST := Lib.hid st
  have OWN := Lib.hid own
  have hzz : w.heap.size ≤ w1.heap.size := by rw [z1]; simp
  clear st own d1 o1 HS0 HO0 z1
  go_wp2
  go_loopw [5, 7] (fun ov i wr => ∃ (k : Nat) (o : List Int), k ≤ n ∧ i = .int .i64 k ∧ OwI wr w.heap.size ov o ∧ o.length = k ∧ Sm o k ∧ St w wr lo R (p + 1 + k) ∧ w.heap.size ≤ wr.heap.size) (fun _ i _ => n - (intOf i).toNat)
  case atStart => exact ⟨0, [], Nat.zero_le _, rfl, OWN.out, rfl, fun j hj => by simp at hj, ST.out, hzz⟩
  case round =>
    clear OWN ST hzz
    obtain ⟨k, o, hk, rfl, hown, hol, hsm, hst, hz⟩ := hrel
    by_cases hlt : k < n
    · have HOWN := Lib.hid hown
      have HST := Lib.hid hst
      clear hown hst
      go_wp2_with fail
      refine (pick_any lo R (p + 1 + k) (k + 1) _ HST.out.rd (by omega) (by omega) (by omega)).mono ?_
      rintro e w2 ⟨at_, rfl, hat, d2, o2, z2⟩
      have st := HST.out.pick d2 o2
      have own := HOWN.out.pick o2 (by omega)
      have ST := Lib.hid st
      have OWN := Lib.hid own
      have hz2 : w.heap.size ≤ w2.heap.size := by omega
      have HSM := Lib.hid hsm
      clear st own d2 o2 HST HOWN z2 hz hsm
      go_wp2
      go_loopw [9] (fun i wr => ∃ (t : Nat) (o' : List Int), t ≤ k ∧ i = .int .i64 t ∧ OwI wr w.heap.size u5 o' ∧ o'.length = k ∧ (∀ j, j < k → 0 ≤ gi o' j ∧ gi o' j ≤ k + 1 ∧ (t ≤ j → gi o' j ≤ k)) ∧ St w wr lo R (p + 1 + k + 1) ∧ w.heap.size ≤ wr.heap.size) (fun i _ => k - (intOf i).toNat)
      case atStart => exact ⟨0, o, Nat.zero_le _, rfl, OWN.out, hol, fun j hj => by
          have := HSM.out j (by omega)
          omega, ST.out, hz2⟩
      case round =>
        obtain ⟨t, o', ht, rfl, hown, hol', hbd, hst, hz⟩ := hrel
        by_cases hlt2 : t < k
        · obtain ⟨g, cap, rfl, hgB, hgw, hcp, hcp2, hcs, hfz⟩ := hown.form (by omega)
          have hct := hcs t (by omega)
          have hft := hfz t
          have hbt := hbd t hlt2
          have HOWN' := Lib.hid hown
          have HST' := Lib.hid hst
          have HBD := Lib.hid hbd
          clear hown hst hbd hcs hfz OWN ST HSM
          by_cases hge : (at_ : Int) ≤ gi o' t
          · have hge' : decide ((at_ : Int) ≤ gi o' t) = true := by simp [hge]
            go_wp2
            go_roundw
            case rel => exact ⟨t + 1, o'.set t (gi o' t + 1), by omega, by go_num, HOWN'.out.set t _, by simpa using hol', fun j hj => by
              rw [gi_set (by omega)]
              have := HBD.out j hj
              split
              · rename_i e; subst e; have := this.2.2 (by omega); omega
              · exact ⟨this.1, this.2.1, fun h => this.2.2 (by omega)⟩, HST'.out.below ((Below.refl _ _).setCell (p := ⟨g, t, none⟩) hgB _), by simpa [World.setCell] using hz⟩
            case measure => simp [intOf]; omega
          · have hge' : decide ((at_ : Int) ≤ gi o' t) = false := by simp; omega
            go_wp2
            go_roundw
            case rel => exact ⟨t + 1, o', by omega, by go_num, HOWN'.out, hol', fun j hj => by
              have := HBD.out j hj
              exact ⟨this.1, this.2.1, fun h => this.2.2 (by omega)⟩, HST'.out, hz⟩
            case measure => simp [intOf]; omega
        · obtain rfl : t = k := by omega
          have HBD := Lib.hid hbd
          have HST' := Lib.hid hst
          clear hbd hst OWN ST HSM
          go_wp2_with (at_builtin; refine wpList_push2 Try.underlying22 hown (by rfl) (by rfl) (by rfl) (by rfl) (by omega) hz ?_; intro g c w3 hown1 hg1 hn1)
          go_roundw
          case rel => exact ⟨t + 1, o' ++ [(at_ : Int)], by omega, by go_num, (by rw [hol'] at hown1; exact hown1), by simp [hol'], fun j hj => by
            have hj' : j < t + 1 := by simpa [hol'] using hj
            rw [gi_app]
            split
            · have := HBD.out j (by omega); omega
            · split
              · omega
              · omega, by
              have := HST'.out.below (push_below (Below.refl _ _) hz hown hg1)
              rwa [show p + 1 + (t + 1) = p + 1 + t + 1 by omega], Nat.le_trans hz hg1.size⟩
          case measure => simp [intOf]; omega
    · obtain rfl : n = k := by omega
      by_cases hn0 : n = 0
      · subst hn0
        go_wp2
        go_ret
        exact ⟨_, o, _, rfl, by omega, hst, hown.wr (by omega), by omega⟩
      · have hn0' : decide ((0 : Int) < (n : Int)) = true := by simp; omega
        have HOWN := Lib.hid hown
        have HST := Lib.hid hst
        clear hown hst
        go_wp2_with fail
        refine (pick_any lo R (p + 1 + n) 40 _ HST.out.rd (by omega) (by omega) (by omega)).mono ?_
        rintro e w2 ⟨q, rfl, hq, d2, o2, z2⟩
        have st := HST.out.pick d2 o2
        have own := HOWN.out.pick o2 (by omega)
        have hz2 : w.heap.size ≤ w2.heap.size := by omega
        clear HST HOWN z2
        subst hol
        by_cases hq0 : q = 0
        · subst hq0
          have ha : Below w2.heap.size w2 (w2.alloc (.cells #[.int .i64 (-1), .int .i64 (o.length : Int)] 3)) := (Below.refl _ _).alloc (Nat.le_refl _) _
          have sta := st.below (ha.mono hz2)
          have owna := own.below ha
          have rowa := Row.new w2 #[.int .i64 (-1), .int .i64 (o.length : Int)] 3
          have STA := Lib.hid sta
          have OWNA := Lib.hid owna
          have ROWA := Lib.hid rowa
          obtain ⟨g, cap, rfl, hgB, hgw, hcp, hcp2, hcs, hfz⟩ := own.form (by omega)
          clear hcs hfz st own ha sta owna rowa d2 o2
          go_wp2_with fail
          refine (pick_any lo R (p + 1 + o.length + 1) 2 _ STA.out.rd (by omega) (by omega) (by omega)).mono ?_
          rintro e w3 ⟨m, rfl, hm2, d3, o3, z3⟩
          have st3 := STA.out.pick d3 o3
          have own3 := OWNA.out.pick o3 (by omega)
          have row3 : Row w3 w2.heap.size 3 #[.int .i64 (-1), .int .i64 (o.length : Int)] := (o3.block w2.heap.size (by simp) (.inr (by omega))).trans ROWA.out
          have k0 : w3.cell? ⟨w2.heap.size, 0, none⟩ = some (.int .i64 (-1)) := by rw [row3.cell]; rfl
          have k1 : w3.cell? ⟨w2.heap.size, 1, none⟩ = some (.int .i64 (o.length : Int)) := by rw [row3.cell]; rfl
          obtain ⟨g3, cap3, he3, _, _, _, _, hcs3, hfz3⟩ := own3.form (by omega)
          cases he3
          have hf0 := hfz3 0
          have hc0 := hcs3 0 (by omega)
          have ST3 := Lib.hid st3
          have OWN3 := Lib.hid own3
          clear st3 own3 row3 hcs3 hfz3 d3 o3 z3 STA OWNA ROWA
          rcases (by omega : m = 0 ∨ m = 1) with rfl | rfl
          · go_wp2
            go_ret
            exact ⟨_, o.set 0 (-1), _, rfl, by omega, ST3.out.below ((Below.refl _ _).setCell (p := ⟨g, 0, none⟩) hgB _), (OWN3.out.set 0 _).wr (by simp; omega), by simp; omega⟩
          · go_wp2
            go_ret
            exact ⟨_, o.set 0 (o.length : Int), _, rfl, by omega, ST3.out.below ((Below.refl _ _).setCell (p := ⟨g, 0, none⟩) hgB _), (OWN3.out.set 0 _).wr (by simp; omega), by simp; omega⟩
        · have hb0 : ((q : Int) == 0) = false := by rw [beq_eq_false_iff_ne]; omega
          by_cases hq1 : q = 1
          · subst hq1
            obtain ⟨g, cap, rfl, hgB, hgw, hcp, hcp2, hcs, hfz⟩ := own.form (by omega)
            have hc0 := hcs 0 (by omega)
            have ST := Lib.hid st
            clear hcs hfz st d2 o2
            go_wp2_with (at_builtin; refine wpList_push2 Try.underlying22 own (by rfl) (by rfl) (by rfl) (by rfl) (by omega) hz2 ?_; intro g2 c2 w3 hown1 hg1 hn1)
            go_ret
            exact ⟨_, _, _, rfl, by omega, ST.out.below (push_below (Below.refl _ _) hz2 own hg1), hown1.wr (by simp; omega), by simp; omega⟩
          · have hb1 : ((q : Int) == 1) = false := by rw [beq_eq_false_iff_ne]; omega
            have ST := Lib.hid st
            have OWN := Lib.hid own
            clear st own d2 o2
            go_wp2
            go_ret
            exact ⟨_, o, _, rfl, by omega, ST.out, OWN.out.wr (by omega), by omega⟩

end Go.Proofs.Ytldjnfcdmhcjdaa
