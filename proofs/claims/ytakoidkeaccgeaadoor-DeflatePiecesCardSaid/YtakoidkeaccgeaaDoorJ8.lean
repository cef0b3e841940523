/- merge: Lengths. -/
import Derived.Test.YtakoidkeaccgeaaDoorJ7
import Derived.Test.YtakoidkeaccgeaaDoorJ2
import Derived.Test.YtakoidkeaccgeaaDoorJ4
namespace Go.Proofs.YtakoidkeaccgeaaDoor
open Go.RowKit Go.Shelf Go.Sort

theorem nis_rep (n : Nat) : (madeCells (Value.int .i64 0).cells (n * 1)).toList = nis (List.replicate n 0) := by
  rw [Nat.mul_one, show (Value.int .i64 0).cells = #[Value.int .i64 0] from rfl, toList_madeCells_one]
  simp [nis]
theorem gN_le {c : List Nat} {M : Nat} (h : ∀ n ∈ c, n ≤ M) (i : Nat) : gN c i ≤ M := by
  by_cases hi : i < c.length
  · exact h _ (gN_mem c i hi)
  · rw [gN_out c i (by omega)]; omega

set_option maxHeartbeats 12800000 in
set_option maxRecDepth 100000 in
theorem lengths_calls (S : Nat → Prop) (v : Value) (c : List Nat) (most : Nat) (w : World) (hr : Row w S 3 1 v c.length (nis c)) (hlen : c.length ≤ 288) (hc : ∀ n ∈ c, n ≤ 1099511627776) (hm1 : 1 ≤ most) (hm2 : most ≤ 15) (ho : (orderN c).length ≤ 2 ^ most) :
    Calls Tryd.prog 46 #[v, .int .i64 (most : Int)] w fun e w' => ∃ v', e = .returned (.tuple #[v', .int .i64 0]) ∧ w'.ownsRow w.heap.size 3 1 v' c.length (nis (mergeN c most)) ∧ Chg (fun _ => False) w w' := by
  have hW := wrong_calls S v c most w hr hlen hc hm1 hm2 ho
  have hU := fun W (h : Chg (fun _ => False) w W) => used_calls S v c W (hr.chg h (fun _ _ _ h => h)) (by omega)
  obtain ⟨A, k0, rfl, hm, hA⟩ := hr.form
  obtain ⟨ii, hii, hi0, hi1, hi2⟩ := info_parts infoInt
  obtain ⟨ip, hip, hp0, hp1, hp2⟩ := info_parts infoPack
  have HW := Lib.hid hW
  have HU := Lib.hid hU
  have HR := Lib.hid hr
  have HC := Lib.hid hc
  have HO := Lib.hid ho
  have hol := orderN_length c
  have HOL := Lib.hid (orderN_lt c)
  have hmm : ii.bytes * c.length ≤ 281474976710656 := by rw [hi2]; omega
  have hm63 : c.length ≤ maxLen := by unfold maxLen; omega
  clear hW hU hA hr hc ho hm
  go_enter Tryd.func46, Tryd.ntmps46
  go_wp2_with fail
  refine HW.out.mono ?_
  rintro e w1 ⟨rfl, hc1⟩
  have HC1 := Lib.hid hc1
  have hs1 := hc1.size
  clear hc1
  go_wp2_with (at_make; go_loud (refine wpList_make_full _ rfl (.tmp 26) (.tmp 26) 22 rfl w1.heap.size 3 ii (.int .i64 0) 1 Tryd.underlying22 hii hi0 hi1 .i64 .i64 _ _ c.length rfl rfl rfl rfl hmm hm63 (Nat.le_refl _) ?_); intro w2 hown2 hgr2; rw [nis_rep] at hown2; have hc2 : Chg (fun _ => False) w1 w2 := (Chg.refl _ _).grown hgr2 (fun k hk => by cases hk))
  have HC2 := Lib.hid (HC1.out.trans hc2 (fun _ h => Or.inl h))
  have HO2 := Lib.hid hown2
  have hs2 := hc2.size
  have hl2 := own_blk_lt hown2 w1.heap.size rfl
  clear hown2 hgr2 hc2
  refine (HU.out w2 HC2.out).mono ?_
  rintro e w3 ⟨v3, rfl, ho3, hc3⟩
  obtain ⟨Ao, ko, rfl⟩ := own_slice ho3
  have HO3 := Lib.hid ho3
  have HOUT := Lib.hid (hc3.own HO2.out (fun _ _ h => h))
  have HC3 := Lib.hid (HC2.out.trans hc3 (fun _ h => Or.inl h))
  have hs3 := hc3.size
  clear ho3 hc3 HO2 HC2 HC1 HW HU
  have hdef : mergeN c most = if (orderN c).length < 2 then ones (orderN c) (List.replicate c.length 0) (orderN c).length else bump (orderN c) (listN c (orderN c) (most - 1)) (List.replicate c.length 0) (2 * (orderN c).length - 2) := rfl
  have HD := Lib.hid hdef
  have henough := listN_enough c (orderN c) most hm1
  have HEN := Lib.hid henough
  have hpb := listN_PB c (orderN c) 1099511627776 (gN_le HC.out)
  have HPB := Lib.hid hpb
  have hlle := listN_le c (orderN c)
  have HLL := Lib.hid hlle
  clear hdef henough hpb hlle
  generalize hoo : orderN c = o at *
  by_cases hlt : o.length < 2
  · have hlt' : (o.length : Int) < 2 := by omega
    go_wp2
    go_loopw [35] (fun i W => ∃ k : Nat, k ≤ o.length ∧ i = .int .i64 (k : Int) ∧ Hid (W.ownsRow w1.heap.size 3 1 (.slice (some ⟨w1.heap.size, 0, none⟩) c.length c.length) c.length (nis (ones o (List.replicate c.length 0) k))) ∧ Hid (Chg (fun b => b = w1.heap.size) w3 W)) (fun i _ => o.length - (intOf i).toNat)
    case atStart => exact ⟨0, Nat.zero_le _, rfl, HOUT.out, Chg.refl _ _⟩
    case round =>
      clear HOUT
      obtain ⟨k, hk, rfl, HX, HCX⟩ := hrel
      by_cases hkl : k < o.length
      · have hor := (Row.of_own (S := fun b => w2.heap.size ≤ b) HO3.out (fun b hb => own_base HO3.out b hb)).chg HCX.out (fun b hb _ he => by omega)
        obtain ⟨g, off, rfl, _, _, hcell⟩ := hor.at_ Ao ko rfl k (by omega)
        rw [nis_at o k hkl] at hcell
        have hlt3 := HOL.out (gN o k) (gN_mem o k hkl)
        have hon := ones_length o (List.replicate c.length 0) k
        have hcx := (HX.out.cellAt (gN o k) (by omega)).trans (nis_at (ones o (List.replicate c.length 0) k) (gN o k) (by rw [hon]; simpa using hlt3))
        have hfx := HX.out.frozenAt (gN o k)
        have hkl2 : (k : Int) < (o.length : Int) := by omega
        have hlt4 : (gN o k : Int) < (c.length : Int) := by omega
        clear hor hon
        go_wp2
        go_roundw
        case rel =>
          refine ⟨k + 1, by omega, by go_num, ?_, HCX.out.setCell (p := ⟨w1.heap.size, gN o k, none⟩) (Or.inl rfl) _⟩
          have := (HX.out.stored (gN o k) (.int .i64 ((1 : Nat) : Int))).1
          rw [nis_set] at this
          exact this
        case measure => simp [intOf]; omega
      · obtain rfl : k = o.length := by omega
        go_wp2
        go_returns
        refine ⟨_, rfl, ?_, (HC3.out.trans HCX.out (fun b hb => Or.inr (by omega)))⟩
        rw [HD.out, if_pos hlt]
        exact own_lower HX.out hs1
  · have hlt' : ¬ (o.length : Int) < 2 := by omega
    go_wp2
    have hol2 : o.length ≤ 288 := by omega
    go_loopw [11, 46] (fun a i W => ∃ (k : Nat) (ds : List Value), k ≤ o.length ∧ i = .int .i64 (k : Int) ∧ Hid (W.ownsRow w3.heap.size 116 2 a k ds) ∧ Hid (PC W (fun b => w3.heap.size ≤ b) (leavesN c o k) ds) ∧ Hid (Chg (fun _ => False) w3 W)) (fun _ i _ => o.length - (intOf i).toNat)
    case atStart => exact ⟨0, [], Nat.zero_le _, rfl, own_nil _ _ _ _, rfl, Chg.refl _ _⟩
    case round =>
      obtain ⟨k, ds, hk, rfl, HX, HP, HCX⟩ := hrel
      by_cases hkl : k < o.length
      · have hor := (Row.of_own (S := fun b => w2.heap.size ≤ b) HO3.out (fun b hb => own_base HO3.out b hb)).chg HCX.out (fun _ _ _ h => h)
        have hcr := (HR.out.chg HC3.out (fun _ _ _ h => h)).chg HCX.out (fun _ _ _ h => h)
        obtain ⟨g, off, rfl, _, _, hcell⟩ := hor.at_ Ao ko rfl k (by omega)
        rw [nis_at o k hkl] at hcell
        have hlt3 := HOL.out (gN o k) (gN_mem o k hkl)
        obtain ⟨g2, off2, rfl, _, _, hcell2⟩ := hcr.at_ A k0 rfl (gN o k) (by omega)
        rw [nis_at c (gN o k) hlt3] at hcell2
        have hkl2 : (k : Int) < (o.length : Int) := by omega
        have hlt4 : (gN o k : Int) < (c.length : Int) := by omega
        have hsx := HCX.out.size
        have hn1 : k + 1 ≤ maxLen := by unfold maxLen; omega
        have hn2 : (k + 1) * 32 ≤ 140737488355328 := by omega
        clear hor hcr
        go_wp2_with (at_builtin; go_loud (refine wpList_append_lies _ rfl (.tmp 51) (.tmp 59) 114 rfl w3.heap.size 116 ip _ 2 32 Tryd.underlying114 hip hp0 hp1 hp2 rfl (by omega) _ k ds rfl ((HX.out.alloc _).alloc _) ⟨wr.heap.size + 1, 0, none⟩ 1 1 [.int .i64 (gN c (gN o k) : Int), .slice (some ⟨wr.heap.size, 0, none⟩) 1 1] (by first | rfl | simp) rfl (World.news_of_block (cs := #[.int .i64 (gN c (gN o k) : Int), .slice (some ⟨wr.heap.size, 0, none⟩) 1 1]) (t := 116) (fr := (0, 0)) (heap_alloc_at _ _ _ (by simp))) (by simp [Value.oneCell']) (by omega) hn1 hn2 (by simp; omega) _ rfl ?_); intro gg cap w4 hown4 hgrow hat hlt4)
        go_roundw
        case rel =>
          refine ⟨k + 1, ds ++ [Value.int .i64 (gN c (gN o k) : Int), Value.slice (some ⟨wr.heap.size, 0, none⟩) 1 1], by omega, by go_num, hown4, ?_, ((HCX.out.alloc _).alloc _).grown hgrow (fun b hb => Or.inr (own_base HX.out b hb))⟩
          have ha1 : Chg (fun _ => False) wr (wr.alloc (.cells #[.int .i64 (k : Int)] 3)) := (Chg.refl _ _).alloc _
          have ha2 : Chg (fun _ => False) (wr.alloc (.cells #[.int .i64 (k : Int)] 3)) ((wr.alloc (.cells #[.int .i64 (k : Int)] 3)).alloc (.cells #[.int .i64 (gN c (gN o k) : Int), .slice (some ⟨wr.heap.size, 0, none⟩) 1 1] 116)) := (Chg.refl _ _).alloc _
          have ha := ha1.trans ha2 (fun _ h => h.elim)
          have hin : Row (wr.alloc (.cells #[.int .i64 (k : Int)] 3)) (fun b => w3.heap.size ≤ b) 3 1 (.slice (some ⟨wr.heap.size, 0, none⟩) 1 1) [k].length (nis [k]) := by
            have := Row.lit wr #[.int .i64 (k : Int)] 3 1 (by decide) rfl
            rcases this.2 with ⟨he, _⟩ | ⟨g', off', cap', cur', he, _, r⟩
            · cases he
            · refine ⟨this.1, .inr ⟨g', off', cap', cur', he, ?_, r⟩⟩
              injection he with he
              injection he with he
              injection he with he
              omega
          have hall := (HP.out.chg ha (fun _ _ _ h => h)).append (PC.one (c := gN c (gN o k)) (hin.chg ha2 (fun _ _ _ h => h)))
          exact hall.imp (fun v n xs hr => Row.grown_type hr ((HX.out.alloc _).alloc _) hgrow (by decide))
        case measure => simp [intOf]; omega
      · obtain rfl : k = o.length := by omega
        obtain ⟨wz, rfl⟩ : ∃ wz : World, wz = wr := ⟨_, rfl⟩
        have hcz := HCX.out.size
        have hleaf : Packs wz (fun b => w3.heap.size ≤ b) _ (leavesN c o o.length) := ⟨ds, HP.out, by rw [leavesN_length]; exact Row.of_own HX.out (fun b hb => own_base HX.out b hb)⟩
        have HLF := Lib.hid hleaf
        have hmi : (most : Int) - 1 = ((most - 1 : Nat) : Int) := by omega
        have HMI := Lib.hid hmi
        clear hleaf hmi HP HX
        go_wp2
        go_loopw [14, 65] (fun li i W => ∃ r : Nat, r ≤ most - 1 ∧ i = .int .i64 (r : Int) ∧ Hid (Packs W (fun b => w3.heap.size ≤ b) li (listN c o r)) ∧ Hid (Chg (fun _ => False) wz W)) (fun _ i _ => most - (intOf i).toNat)
        case atStart => exact ⟨0, Nat.zero_le _, rfl, HLF.out, Chg.refl _ _⟩
        case round =>
          obtain ⟨r, hrm, rfl, HPK, HCR⟩ := hrel
          have hllr := HLL.out r
          by_cases hrl : r < most - 1
          · have hrl2 : (r : Int) < (most : Int) - 1 := by omega
            have hp14 : 2 ^ r ≤ 2 ^ 14 := Nat.pow_le_pow_right (by decide) (by omega)
            have hbd : ∀ p ∈ listN c o r, p.1 ≤ 1152921504606846976 ∧ p.2.length ≤ 100000 := fun p hp => by
              have := HPB.out r p hp
              have hm : 1099511627776 * 2 ^ r ≤ 1099511627776 * 2 ^ 14 := Nat.mul_le_mul_left _ hp14
              omega
            have HPR := Lib.hid (pairs_calls _ _ (listN c o r) wr HPK.out (by omega) hbd)
            have hst : listN c o (r + 1) = joinN (leavesN c o o.length) (pairsN (listN c o r) ((listN c o r).length / 2)) := rfl
            have HST := Lib.hid hst
            clear hbd hst hp14
            go_wp2_with fail
            refine HPR.out.mono ?_
            rintro e w5 ⟨v5, rfl, dq, hq1, hq2, hq3⟩
            obtain ⟨Aq, kq, rfl⟩ := own_slice hq1
            have hcr5 := HCR.out.trans hq3 (fun _ h => h.elim)
            have hsr := HCR.out.size
            have hpq : Packs w5 (fun b => w3.heap.size ≤ b) _ (pairsN (listN c o r) ((listN c o r).length / 2)) := ⟨dq, hq2.mono (fun b hb => by omega), Row.of_own hq1 (fun b hb => by have := own_base hq1 b hb; omega)⟩
            have HJN := Lib.hid (joined_calls _ _ _ _ _ w5 (HLF.out.chg hcr5 (fun _ _ _ h => h)) hpq (by rw [leavesN_length, pairsN_length]; omega))
            have HC5 := Lib.hid hcr5
            have hs5 := hq3.size
            clear hpq hcr5 hq1 hq2 hq3
            go_wp2_with fail
            refine HJN.out.mono ?_
            rintro e w6 ⟨v6, dj, rfl, hj1, hj2, hj3⟩
            obtain ⟨Aj, kj, rfl⟩ := own_slice hj1
            have hpj : Packs w6 (fun b => w3.heap.size ≤ b) (.slice Aj _ kj) (listN c o (r + 1)) := ⟨dj, hj2, by
              rw [HST.out, joinN_length]
              exact Row.of_own hj1 (fun b hb => by have := own_base hj1 b hb; omega)⟩
            have HPJ := Lib.hid hpj
            have HC6 := Lib.hid (HC5.out.trans hj3 (fun _ h => h.elim))
            clear hpj hj1 hj2 hj3
            go_wp2
            go_roundw
            case rel => exact ⟨r + 1, by omega, by go_num, HPJ.out, HC6.out⟩
            case measure => simp [intOf]; omega
          · obtain rfl : r = most - 1 := by omega
            obtain ⟨wy, rfl⟩ : ∃ wy : World, wy = wr := ⟨_, rfl⟩
            have hen := HEN.out (by omega) HO.out
            obtain ⟨cl, hpcl, hrl⟩ := HPK.out
            have HPCL := Lib.hid hpcl
            have HRL := Lib.hid hrl
            have hcy := HC3.out.trans (HCX.out.trans HCR.out (fun _ h => h.elim)) (fun _ h => h.elim)
            have HCY := Lib.hid hcy
            have hcy3 := HCX.out.trans HCR.out (fun _ h => h.elim)
            have HOUT2 := Lib.hid (hcy3.own HOUT.out (fun _ _ h => h))
            have hor2 := (Row.of_own (S := fun b => w2.heap.size ≤ b) HO3.out (fun b hb => own_base HO3.out b hb)).chg hcy3 (fun _ _ _ h => h)
            have HOR2 := Lib.hid hor2
            have hsy := hcy3.size
            have hpbl := HPB.out (most - 1)
            have HPBL := Lib.hid hpbl
            have hp14 : 2 ^ (most - 1) ≤ 2 ^ 14 := Nat.pow_le_pow_right (by decide) (by omega)
            rcases hrl.2 with ⟨_, hz⟩ | ⟨gl, fl, cpl, curl, rfl, hSl, hgl, hnl, hcl, _, _⟩
            · exfalso; omega
            · clear hrl hpcl hcy hcy3 hor2 hpbl hgl HOUT HLF HPK
              generalize hL : listN c o (most - 1) = L at *
              have hnl2 : 2 * (o.length : Int) - 2 ≤ (cpl : Int) := by omega
              have hnl3 : (0 : Int) ≤ 2 * (o.length : Int) - 2 := by omega
              have hnt : (2 * (o.length : Int) - 2).toNat = 2 * o.length - 2 := by omega
              unfold maxLen at hcl
              have hnt2 : 2 * (o.length : Int) - 2 = ((2 * o.length - 2 : Nat) : Int) := by omega
              have HNT := Lib.hid hnt2
              clear hnt2
              go_wp2
              go_loopw [79] (fun i W => ∃ j : Nat, j ≤ 2 * o.length - 2 ∧ i = .int .i64 (j : Int) ∧ Hid (W.ownsRow w1.heap.size 3 1 (.slice (some ⟨w1.heap.size, 0, none⟩) c.length c.length) c.length (nis (bump o L (List.replicate c.length 0) j))) ∧ Hid (Chg (fun b => b = w1.heap.size) wy W)) (fun i _ => 2 * o.length - 2 - (intOf i).toNat)
              case atStart => exact ⟨0, Nat.zero_le _, rfl, HOUT2.out, Chg.refl _ _⟩
              case round =>
                obtain ⟨wx, rfl⟩ : ∃ wx : World, wx = wr := ⟨_, rfl⟩
                obtain ⟨j, hj, rfl, HB, HCB⟩ := hrel
                by_cases hjl : j < 2 * o.length - 2
                · have hpx := HPCL.out.chg HCB.out (fun b hb _ he => by omega)
                  obtain ⟨vi, q0, q1, q2⟩ := hpx.at_ j (by omega)
                  have hrx := HRL.out.chg HCB.out (fun b hb _ he => by omega)
                  have c0 := hrx.cell (j * 2) (by omega)
                  have c1 := hrx.cell (j * 2 + 1) (by omega)
                  rw [q0] at c0
                  rw [q1, ← Nat.add_assoc] at c1
                  have hjl2 : (j : Int) < 2 * (o.length : Int) - 2 := by omega
                  have hjl3 : (j : Int) < ((2 * o.length - 2 : Nat) : Int) := by omega
                  have hpj := HPBL.out _ (gP_mem L j (by omega))
                  have hst : bump o L (List.replicate c.length 0) (j + 1) = bumpIn o (gP L j).2 (bump o L (List.replicate c.length 0) j) (gP L j).2.length := rfl
                  have HST := Lib.hid hst
                  have hble := bump_le o L (List.replicate c.length 0) 0 (2 ^ (most - 1)) (fun x => by
                    by_cases hx : x < c.length
                    · rw [gN_rep _ _ _ hx]; omega
                    · rw [gN_out _ _ (by simp; omega)]; omega) (fun p hp => (HPBL.out p hp).2.1) j (by omega)
                  have hbln := bump_length o L (List.replicate c.length 0) j
                  have HBLE := Lib.hid hble
                  have HBLN := Lib.hid hbln
                  have HPJ := Lib.hid hpj.2.2
                  have hpj1 := hpj.1
                  have hpj2 := hpj.2.1
                  have HQ2 := Lib.hid q2
                  clear q0 q1 hpx hrx hst hble hbln hpj
                  generalize gP L j = pj at *
                  obtain ⟨xj, lj⟩ := pj
                  dsimp only at *
                  generalize hbj : bump o L (List.replicate c.length 0) j = bj at *
                  obtain ⟨Ai, ki, rfl, _, _⟩ := q2.form
                  have HQ3 := Lib.hid q2
                  clear q2 hbj
                  have hal : Chg (fun _ => False) wx (wx.alloc (.cells #[.int .i64 (xj : Int), .slice Ai lj.length ki] 116)) := (Chg.refl _ _).alloc _
                  have HAL := Lib.hid hal
                  have hsal := hal.size
                  have hbal := hal.own HB.out (fun _ _ h => h)
                  have HBAL := Lib.hid hbal
                  clear hal hbal
                  go_wp2
                  generalize wx.alloc (.cells #[.int .i64 (xj : Int), .slice Ai lj.length ki] 116) = wa at *
                  go_loopw [86] (fun i W => ∃ q : Nat, q ≤ lj.length ∧ i = .int .i64 (q : Int) ∧ Hid (W.ownsRow w1.heap.size 3 1 (.slice (some ⟨w1.heap.size, 0, none⟩) c.length c.length) c.length (nis (bumpIn o lj bj q))) ∧ Hid (Chg (fun b => b = w1.heap.size) wa W)) (fun i _ => lj.length - (intOf i).toNat)
                  case atStart => exact ⟨0, Nat.zero_le _, rfl, HBAL.out, Chg.refl _ _⟩
                  case round =>
                    obtain ⟨q, hq, rfl, HI, HCI⟩ := hrel
                    by_cases hql : q < lj.length
                    · have hcb2 : Chg (fun b => b = w1.heap.size) wx wr := (HAL.out.mono (T := fun b => b = w1.heap.size) (fun _ h => h.elim)).trans HCI.out (fun b hb => Or.inl hb)
                      have hcy2 := HCB.out.trans hcb2 (fun b hb => Or.inl hb)
                      obtain ⟨gi, fi, rfl, _, _, hci⟩ := (HQ3.out.chg hcb2 (fun b hb _ he => by omega)).at_ Ai ki rfl q (by omega)
                      rw [nis_at lj q hql] at hci
                      have hio := HPJ.out (gN lj q) (gN_mem lj q hql)
                      obtain ⟨go, fo, rfl, _, _, hco⟩ := (HOR2.out.chg hcy2 (fun b hb _ he => by omega)).at_ Ao ko rfl (gN lj q) (by omega)
                      rw [nis_at o (gN lj q) hio] at hco
                      have hso := HOL.out (gN o (gN lj q)) (gN_mem o (gN lj q) hio)
                      have hbil := bumpIn_length o lj bj q
                      have hble2 := bumpIn_le o lj bj (0 + j * 2 ^ (most - 1)) HBLE.out q (gN o (gN lj q))
                      have hmj : j * 2 ^ (most - 1) ≤ 576 * 2 ^ 14 := Nat.mul_le_mul (by omega) hp14
                      have hcx := (HI.out.cellAt (gN o (gN lj q)) (by omega)).trans (nis_at (bumpIn o lj bj q) (gN o (gN lj q)) (by rw [hbil, HBLN.out]; simpa using hso))
                      have hfx := HI.out.frozenAt (gN o (gN lj q))
                      have hql2 : (q : Int) < (lj.length : Int) := by omega
                      have hio2 : (gN lj q : Int) < (o.length : Int) := by omega
                      have hso2 : (gN o (gN lj q) : Int) < (c.length : Int) := by omega
                      have hst2 : bumpIn o lj bj (q + 1) = incr (bumpIn o lj bj q) (gN o (gN lj q)) := rfl
                      have HST2 := Lib.hid hst2
                      have hbq : gN (bumpIn o lj bj q) (gN o (gN lj q)) ≤ 9437184 + 16384 := by omega
                      clear hst2 hbil hble2 hmj
                      go_wp2
                      go_roundw
                      case rel =>
                        refine ⟨q + 1, by omega, by go_num, ?_, HCI.out.setCell (p := ⟨w1.heap.size, gN o (gN lj q), none⟩) (Or.inl rfl) _⟩
                        rw [HST2.out]
                        have := (HI.out.stored (gN o (gN lj q)) (.int .i64 ((gN (bumpIn o lj bj q) (gN o (gN lj q)) + 1 : Nat) : Int))).1
                        rw [nis_set] at this
                        rw [show ((gN (bumpIn o lj bj q) (gN o (gN lj q)) + 1 : Nat) : Int) = (gN (bumpIn o lj bj q) (gN o (gN lj q)) : Int) + 1 by omega] at this
                        exact this
                      case measure => simp [intOf]; omega
                    · obtain rfl : q = lj.length := by omega
                      go_wp2
                      go_roundw
                      case rel => exact ⟨j + 1, by omega, by go_num, by rw [HST.out]; exact HI.out, (HCB.out.trans HAL.out (fun _ h => h.elim)).trans HCI.out (fun b hb => Or.inl hb)⟩
                      case measure => simp [intOf]; omega
                · obtain rfl : j = 2 * o.length - 2 := by omega
                  have hjl2 : ¬ ((2 * o.length - 2 : Nat) : Int) < 2 * (o.length : Int) - 2 := by omega
                  go_wp2
                  go_returns
                  refine ⟨_, rfl, ?_, HCY.out.trans HCB.out (fun b hb => Or.inr (by omega))⟩
                  rw [HD.out, if_neg hlt]
                  exact own_lower HB.out hs1
end Go.Proofs.YtakoidkeaccgeaaDoor

/- lz: the symbols of lengths and distances. -/
namespace Go.Proofs.YtakoidkeaccgeaaDoor
open Go.RowKit Go.Shelf

set_option maxHeartbeats 3200000 in
set_option maxRecDepth 100000 in
theorem steps_calls (k least free step : Nat) (w : World) (hk : k ≤ 30) (hl : least ≤ 3) (hf : free ≤ 8) (hs1 : 1 ≤ step) (hs : step ≤ 4) :
    Calls Tryd.prog 82 #[.int .i64 (k : Int), .int .i64 (least : Int), .int .i64 (free : Int), .int .i64 (step : Int)] w fun e w' => e = .returned (.tuple #[.int .i64 ((stepsN k least free step).1 : Int), .int .i64 ((stepsN k least free step).2 : Int)]) ∧ w' = w := by
  by_cases h0 : k < free
  · have hr : stepsN k least free step = (least + k, 0) := if_pos h0
    have HR := Lib.hid hr
    have h0' : (k : Int) < (free : Int) := by omega
    clear hr h0
    go_enter Tryd.func82, Tryd.ntmps82
    go_wp2
    go_returns
    exact ⟨by rw [HR.out]; simp, rfl⟩
  · have hr : stepsN k least free step = stepsL k (k - free) step (least + free) 1 := if_neg h0
    have HR := Lib.hid hr
    have h0' : ¬ (k : Int) < (free : Int) := by omega
    have h0n : free ≤ k := by omega
    have hcast : (k : Int) - (free : Int) = ((k - free : Nat) : Int) := by omega
    have HCA := Lib.hid hcast
    clear hr h0 hcast
    go_enter Tryd.func82, Tryd.ntmps82
    go_wp2
    rw [HCA.out]
    go_loop [0, 10, 11] (fun a b c => ∃ j t e : Nat, a = .int .i64 (j : Int) ∧ b = .int .i64 (t : Int) ∧ c = .int .i64 (e : Int) ∧ j ≤ k ∧ e + j ≤ 31 ∧ t ≤ 40 + 4 * 2 ^ e ∧ Hid (stepsN k least free step = stepsL j j step t e)) (fun a _ _ => (intOf a).toNat)
    case atStart => exact ⟨k - free, least + free, 1, rfl, by simp, rfl, by omega, by omega, by omega, HR.out.trans (stepsL_fuel _ _ _ _ _ _ hs1 (by omega) (by omega))⟩
    case round =>
      clear HR
      obtain ⟨j, t, e, rfl, rfl, rfl, hj, he, ht, HS⟩ := hrel
      have hp : 2 ^ e ≤ 2 ^ 31 := Nat.pow_le_pow_right (by decide) (by omega)
      have hp0 : 0 < 2 ^ e := Nat.two_pow_pos e
      have hm1 : step * 2 ^ e ≤ 4 * 2 ^ e := Nat.mul_le_mul_right _ hs
      have hm2 : j * 2 ^ e ≤ 31 * 2 ^ e := Nat.mul_le_mul_right _ (by omega)
      have hc1 : (step : Int) * 2 ^ e = ((step * 2 ^ e : Nat) : Int) := by simp
      have hc2 : (j : Int) * 2 ^ e = ((j * 2 ^ e : Nat) : Int) := by simp
      have b1 : 0 ≤ (step : Int) * 2 ^ e ∧ (step : Int) * 2 ^ e ≤ 8589934592 := by rw [hc1]; omega
      have b2 : 0 ≤ (j : Int) * 2 ^ e ∧ (j : Int) * 2 ^ e ≤ 66571993088 := by rw [hc2]; omega
      have b3 : (t : Int) ≤ 8589934632 := by omega
      have hpe : 2 ^ (e + 1) = 2 * 2 ^ e := Nat.pow_succ' ..
      have HM : Hid (t + step * 2 ^ e ≤ 40 + 4 * 2 ^ (e + 1)) := by show _ ≤ _; omega
      have HC1 := Lib.hid hc1
      have HC2 := Lib.hid hc2
      clear hp hp0 hm1 hm2 hc1 hc2 hpe ht
      by_cases hge : step ≤ j
      · have hge' : (step : Int) ≤ (j : Int) := by omega
        have hst : stepsL j j step t e = stepsL (j - step) (j - step) step (t + step * 2 ^ e) (e + 1) := by
          obtain ⟨f, rfl⟩ : ∃ f, j = f + 1 := ⟨j - 1, by omega⟩
          show (if step ≤ f + 1 then _ else _) = _
          rw [if_pos hge]
          exact stepsL_fuel _ _ _ _ _ _ hs1 (by omega) (by omega)
        have HST := Lib.hid hst
        clear hst
        go_wp2
        go_round
        case rel => exact ⟨j - step, t + step * 2 ^ e, e + 1, by congr 1; omega, by rw [HC1.out]; congr 1, by go_num, by omega, by omega, HM.out, by rw [HS.out, HST.out]; rfl⟩
        case measure => simp [intOf]; omega
      · have hge' : ¬ (step : Int) ≤ (j : Int) := by omega
        have hst : stepsL j j step t e = (t + j * 2 ^ e, e) := by
          cases j with
          | zero => rfl
          | succ f => exact if_neg hge
        have HST := Lib.hid hst
        clear hst
        go_wp2
        go_returns
        exact ⟨by rw [HS.out, HST.out, HC2.out]; simp, rfl⟩
set_option maxRecDepth 100000 in
theorem lengthOf_calls (s : Nat) (h1 : 257 ≤ s) (h2 : s ≤ 285) (w : World) : Calls Tryd.prog 65 #[.int .i64 (s : Int)] w fun e w' => e = .returned (.tuple #[.int .i64 ((lenOf s).1 : Int), .int .i64 ((lenOf s).2 : Int), .bool true]) ∧ w' = w := by
  have g1 : decide ((285 : Int) < (s : Int)) = false := by simp; omega
  by_cases h : s = 285
  · subst h
    go_enter Tryd.func65, Tryd.ntmps65
    go_wp2
    go_returns
    exact ⟨rfl, rfl⟩
  · have hne : ((s : Int) == 285) = false := by simp; omega
    have hr : lenOf s = stepsN (s - 257) 3 8 4 := if_neg h
    have HR := Lib.hid hr
    have HST := Lib.hid (fun W => steps_calls (s - 257) 3 8 4 W (by omega) (by omega) (by omega) (by omega) (by omega))
    have hc : (s : Int) - 257 = ((s - 257 : Nat) : Int) := by omega
    have HC := Lib.hid hc
    clear hr h hc
    go_enter Tryd.func65, Tryd.ntmps65
    go_wp2_with fail
    rw [HC.out]
    refine (HST.out w).mono ?_
    rintro e w' ⟨rfl, hw⟩
    obtain rfl : w = w' := hw.symm
    go_wp2
    go_returns
    exact ⟨by rw [HR.out]; rfl, rfl⟩
set_option maxRecDepth 100000 in
theorem distOf_calls (s : Nat) (h2 : s ≤ 29) (w : World) : Calls Tryd.prog 66 #[.int .i64 (s : Int)] w fun e w' => e = .returned (.tuple #[.int .i64 ((distOf s).1 : Int), .int .i64 ((distOf s).2 : Int), .bool true]) ∧ w' = w := by
  have g1 : decide ((29 : Int) < (s : Int)) = false := by simp; omega
  have HST := Lib.hid (fun W => steps_calls s 1 4 2 W (by omega) (by omega) (by omega) (by omega) (by omega))
  go_enter Tryd.func66, Tryd.ntmps66
  go_wp2_with fail
  refine (HST.out w).mono ?_
  rintro e w' ⟨rfl, hw⟩
  obtain rfl : w = w' := hw.symm
  go_wp2
  go_returns
  exact ⟨rfl, rfl⟩
theorem sizeExtra : (Tryd.prog.info? 72).map (·.size) = some 3 := by kernel_rfl
def xtra (x : Nat × Nat × Nat) : Value := .agg #[.int .i64 (x.1 : Int), .int .i64 (x.2.1 : Int), .int .u64 (x.2.2 : Int)]
theorem ret_xtra {a b c : Int} {x : Nat × Nat × Nat} (h1 : a = (x.1 : Int)) (h2 : b = (x.2.1 : Int)) (h3 : c = (x.2.2 : Int)) : Ending.returned (.agg #[.int .i64 a, .int .i64 b, .int .u64 c]) = .returned (xtra x) := by
  subst h1 h2 h3
  rfl
set_option maxHeartbeats 3200000 in
set_option maxRecDepth 100000 in
theorem find_calls (tab : Nat → Nat × Nat) (g n first last : Nat) (w : World) (eg : ∀ args w, (callFunc g args).run Tryd.prog w = .ok (.enter g args) w)
    (hp : ∀ s, first ≤ s → s ≤ last → ∀ W : World, Calls Tryd.prog g #[.int .i64 (s : Int)] W fun e w' => e = .returned (.tuple #[.int .i64 ((tab s).1 : Int), .int .i64 ((tab s).2 : Int), .bool true]) ∧ w' = W)
    (hn : n ≤ 100000) (hfl : first ≤ last) (hf : last ≤ 1000) (htab : ∀ s, first ≤ s → s ≤ last → (tab s).1 ≤ 100000) (h0 : (tab first).1 ≤ n) :
    Calls Tryd.prog 64 #[.int .i64 (n : Int), .int .i64 (first : Int), .int .i64 (last : Int), .func (.func g) #[] #[]] w fun e w' => e = .returned (xtra (findF tab n first (last - first))) ∧ Chg (fun _ => False) w w' := by
  have HP := Lib.hid hp
  have HT := Lib.hid htab
  clear hp htab
  go_enter Tryd.func64, Tryd.ntmps64
  go_wp2
  go_loop [9] (fun i => ∃ k : Nat, first ≤ k ∧ k ≤ last ∧ i = .int .i64 (k : Int) ∧ Hid (findF tab n first (last - first) = findF tab n first (k - first))) (fun i => (intOf i).toNat)
  case atStart => exact ⟨last, hfl, Nat.le_refl _, rfl, rfl⟩
  case round =>
    obtain ⟨k, hk1, hk, rfl, HF⟩ := hrel
    have hb := HP.out k (by omega) (by omega)
    have ht := HT.out k (by omega) (by omega)
    by_cases hk0 : first < k
    · have hlt : (first : Int) < (k : Int) := by omega
      have hstep : findF tab n first (k - first) = if (tab k).1 ≤ n then (k, (tab k).2, n - (tab k).1) else findF tab n first (k - 1 - first) := by
        obtain ⟨m, rfl⟩ : ∃ m, k = first + (m + 1) := ⟨k - 1 - first, by omega⟩
        rw [Nat.add_sub_cancel_left, show first + (m + 1) - 1 - first = m by omega]
        rfl
      have HB := Lib.hid hb
      have HST := Lib.hid hstep
      clear hb hstep
      generalize hx : tab k = x at *
      obtain ⟨xa, xe⟩ := x
      clear hx
      dsimp only at ht
      go_wp2_with fail
      refine (HB.out _).mono ?_
      rintro e w' ⟨rfl, rfl⟩
      by_cases hle : xa ≤ n
      · have hle' : (xa : Int) ≤ (n : Int) := by omega
        go_wp2
        go_returns
        refine ⟨?_, (Chg.refl _ _).alloc _⟩
        rw [HF.out, HST.out, if_pos hle]
        exact ret_xtra rfl rfl (by dsimp only; omega)
      · have hle' : ¬ (xa : Int) ≤ (n : Int) := by omega
        go_wp2
        go_round
        case rel => exact ⟨k - 1, by omega, by omega, by congr 1; omega, by rw [HF.out, HST.out, if_neg hle]; rfl⟩
        case measure => simp [intOf]; omega
    · obtain rfl : k = first := by omega
      have hlt : ¬ (k : Int) < (k : Int) := by omega
      have hstep : findF tab n k (k - k) = (k, (tab k).2, n - (tab k).1) := by rw [Nat.sub_self]; rfl
      have HST := Lib.hid hstep
      have HB := Lib.hid hb
      clear hb hstep
      generalize hx : tab k = x at *
      obtain ⟨xa, xe⟩ := x
      dsimp only at ht h0
      have HX := Lib.hid hx
      clear hx
      go_wp2_with fail
      refine (HB.out _).mono ?_
      rintro e w' ⟨rfl, rfl⟩
      go_wp2
      go_returns
      refine ⟨?_, (Chg.refl _ _).alloc _⟩
      rw [HF.out, HST.out]
      exact ret_xtra rfl rfl (by dsimp only; omega)

set_option maxHeartbeats 3200000 in
set_option maxRecDepth 100000 in
theorem length_calls (n : Nat) (h1 : 3 ≤ n) (h2 : n ≤ 258) (w : World) : Calls Tryd.prog 42 #[.int .i64 (n : Int)] w fun e w' => e = .returned (xtra (lenSym n)) ∧ Chg (fun _ => False) w w' := by
  have HF := Lib.hid (fun W => find_calls lenOf 65 n 257 285 W (enters_of Tryd.func65 (by kernel_rfl) rfl) (fun s a b W => lengthOf_calls s a b W) (by omega) (by omega) (by omega)
    (fun s a b => by have := lenOf_small s a b; omega) (by rw [show (lenOf 257).1 = 3 from by decide +kernel]; exact h1))
  have g1 : decide ((258 : Int) < (n : Int)) = false := by simp; omega
  go_enter Tryd.func42, Tryd.ntmps42
  go_wp2_with fail
  refine (HF.out _).mono ?_
  rintro e w' ⟨rfl, hC⟩
  have hsz := hC.size
  rw [show findF lenOf n 257 (285 - 257) = lenSym n from rfl]
  have hbk := (Blk.new w #[.int .i64 0, .int .i64 0, .int .u64 0] 72).chg hC (fun h => h)
  have hc0 := hC
  unfold xtra
  generalize hx : lenSym n = x at *
  have HX := Lib.hid hx
  clear hx
  have k0 := hbk.cell 0
  have k1 := hbk.cell 1
  have k2 := hbk.cell 2
  have f0 := hbk.frozen 0
  have f1 := hbk.frozen 1
  have f2 := hbk.frozen 2
  simp at k0 k1 k2
  have HCC := Lib.hid hC
  have HBK := Lib.hid hbk
  clear hbk hC hc0
  go_wp2
  refine bodyPost_ret (results_cell_row rfl _ _ w.heap.size 72 #[.int .i64 (x.1 : Int), .int .i64 (x.2.1 : Int), .int .u64 (x.2.2 : Int)] (0, 0) _ rfl (((HBK.out.set 0 _).set 1 _).set 2 _) Tryd.underlying72 rfl sizeExtra) rfl ?_
  rw [HX.out]
  exact ⟨rfl, ((((((Chg.refl _ w).alloc _).trans HCC.out (fun _ h => Or.inl h)).setCell (p := ⟨w.heap.size, 0, none⟩) (Or.inr (Nat.le_refl _)) _).setCell (p := ⟨w.heap.size, 1, none⟩) (Or.inr (Nat.le_refl _)) _).setCell (p := ⟨w.heap.size, 2, none⟩) (Or.inr (Nat.le_refl _)) _)⟩

set_option maxHeartbeats 3200000 in
set_option maxRecDepth 100000 in
theorem dist_calls (n : Nat) (h1 : 1 ≤ n) (h2 : n ≤ 32768) (w : World) : Calls Tryd.prog 43 #[.int .i64 (n : Int)] w fun e w' => e = .returned (xtra (distSym n)) ∧ Chg (fun _ => False) w w' := by
  have HF := Lib.hid (fun W => find_calls distOf 66 n 0 29 W (enters_of Tryd.func66 (by kernel_rfl) rfl) (fun s a b W => distOf_calls s b W) (by omega) (by omega) (by omega)
    (fun s a b => by have := distOf_small s b; omega) (by rw [show (distOf 0).1 = 1 from by decide +kernel]; exact h1))
  have g1 : decide ((32768 : Int) < (n : Int)) = false := by simp; omega
  go_enter Tryd.func43, Tryd.ntmps43
  go_wp2_with fail
  refine (HF.out _).mono ?_
  rintro e w' ⟨rfl, hC⟩
  have hsz := hC.size
  rw [show findF distOf n 0 (29 - 0) = distSym n from rfl]
  have hbk := (Blk.new w #[.int .i64 0, .int .i64 0, .int .u64 0] 72).chg hC (fun h => h)
  unfold xtra
  generalize hx : distSym n = x at *
  have HX := Lib.hid hx
  clear hx
  have k0 := hbk.cell 0
  have k1 := hbk.cell 1
  have k2 := hbk.cell 2
  have f0 := hbk.frozen 0
  have f1 := hbk.frozen 1
  have f2 := hbk.frozen 2
  simp at k0 k1 k2
  have HCC := Lib.hid hC
  have HBK := Lib.hid hbk
  clear hbk hC
  go_wp2
  refine bodyPost_ret (results_cell_row rfl _ _ w.heap.size 72 #[.int .i64 (x.1 : Int), .int .i64 (x.2.1 : Int), .int .u64 (x.2.2 : Int)] (0, 0) _ rfl (((HBK.out.set 0 _).set 1 _).set 2 _) Tryd.underlying72 rfl sizeExtra) rfl ?_
  rw [HX.out]
  exact ⟨rfl, ((((((Chg.refl _ w).alloc _).trans HCC.out (fun _ h => Or.inl h)).setCell (p := ⟨w.heap.size, 0, none⟩) (Or.inr (Nat.le_refl _)) _).setCell (p := ⟨w.heap.size, 1, none⟩) (Or.inr (Nat.le_refl _)) _).setCell (p := ⟨w.heap.size, 2, none⟩) (Or.inr (Nat.le_refl _)) _)⟩
end Go.Proofs.YtakoidkeaccgeaaDoor

/- block: upto, run, again. -/
namespace Go.Proofs.YtakoidkeaccgeaaDoor
open Go.RowKit Go.Shelf

set_option maxHeartbeats 3200000 in
set_option maxRecDepth 100000 in
theorem upto_calls (S : Nat → Prop) (v : Value) (l : List Nat) (least : Nat) (w : World) (hr : Row w S 3 1 v l.length (nis l)) (hl : least ≤ 1000) :
    Calls Tryd.prog 47 #[v, .int .i64 (least : Int)] w fun e w' => e = .returned (.int .i64 (uptoN l least l.length : Int)) ∧ w' = w := by
  obtain ⟨A, c, rfl, hm, hA⟩ := hr.form
  have HR := Lib.hid hr
  clear hr hA
  unfold maxLen at hm
  go_enter Tryd.func47, Tryd.ntmps47
  go_wp2
  go_loop [5] (fun i => ∃ k : Nat, k ≤ l.length ∧ i = .int .i64 (k : Int) ∧ Hid (uptoN l least l.length = uptoN l least k)) (fun i => (intOf i).toNat)
  case atStart => exact ⟨l.length, Nat.le_refl _, rfl, rfl⟩
  case round =>
    obtain ⟨k, hk, rfl, HU⟩ := hrel
    by_cases h1 : least < k
    · have h1' : (least : Int) < (k : Int) := by omega
      obtain ⟨g, off, rfl, _, hg, hcell⟩ := HR.out.at_ A c rfl (k - 1) (by omega)
      rw [nis_at l (k - 1) (by omega)] at hcell
      have hi : ((k : Int) - 1).toNat = k - 1 := by omega
      have hst : uptoN l least k = if gN l (k - 1) = 0 then uptoN l least (k - 1) else k := by
        obtain ⟨m, rfl⟩ : ∃ m, k = m + 1 := ⟨k - 1, by omega⟩
        show (if _ then _ else _) = _
        rw [Nat.add_sub_cancel]
        by_cases h : gN l m = 0
        · rw [if_pos ⟨h1, h⟩, if_pos h]
        · rw [if_neg (fun x => h x.2), if_neg h]
      have HST := Lib.hid hst
      have q0 : (0 : Int) ≤ (k : Int) - 1 := by omega
      have q1 : (k : Int) - 1 < (l.length : Int) := by omega
      clear hst
      by_cases hz : gN l (k - 1) = 0
      · have hzb : ((gN l (k - 1) : Int) == 0) = true := by simp; omega
        have HZ := Lib.hid hz
        clear hz
        go_wp2
        go_round
        case rel => exact ⟨k - 1, by omega, by congr 1; omega, by rw [HU.out, HST.out, if_pos HZ.out]; rfl⟩
        case measure => simp [intOf]; omega
      · have hzb : ((gN l (k - 1) : Int) == 0) = false := by simp; omega
        go_wp2
        go_returns
        exact ⟨ret_int (by rw [HU.out, HST.out, if_neg hz]), rfl⟩
    · have h1' : ¬ (least : Int) < (k : Int) := by omega
      have hst : uptoN l least k = k := by
        cases k with
        | zero => rfl
        | succ m => exact if_neg (fun x => h1 x.1)
      have HST := Lib.hid hst
      clear hst
      go_wp2
      go_returns
      exact ⟨ret_int (by rw [HU.out, HST.out]), rfl⟩

set_option maxHeartbeats 3200000 in
set_option maxRecDepth 100000 in
theorem run_calls (S : Nat → Prop) (v : Value) (l : List Nat) (i : Nat) (w : World) (hr : Row w S 3 1 v l.length (nis l)) (hi : i < l.length) (hlen : l.length ≤ 1000000) :
    Calls Tryd.prog 34 #[v, .int .i64 (i : Int)] w fun e w' => e = .returned (.int .i64 (runN l i : Int)) ∧ ∃ m, w' = w.drewN m := by
  obtain ⟨A, c, rfl, hm, hA⟩ := hr.form
  have HR := Lib.hid hr
  obtain ⟨g, off, rfl, _, hg, hcell⟩ := hr.at_ A c rfl i (by omega)
  rw [nis_at l i hi] at hcell
  clear hr hA hm
  have hi2 : (i : Int) < (l.length : Int) := by omega
  go_enter Tryd.func34, Tryd.ntmps34
  go_wp2
  go_loopw [5] (fun n W => ∃ k m : Nat, i + k ≤ l.length ∧ 1 ≤ k ∧ n = .int .i64 (k : Int) ∧ W = w.drewN m ∧ Hid (runN l i = runF l i l.length k)) (fun n _ => l.length - (intOf n).toNat)
  case atStart => exact ⟨1, 0, by omega, by omega, rfl, rfl, rfl⟩
  case round =>
    obtain ⟨k, m, hk, hk1, rfl, rfl, HU⟩ := hrel
    have hst : runF l i l.length k = if i + k < l.length ∧ gN l (i + k) = gN l i then runF l i l.length (k + 1) else k := by
      obtain ⟨f, hf⟩ : ∃ f, l.length = f + 1 := ⟨l.length - 1, by omega⟩
      conv => lhs; rw [hf, runF]
      split
      · exact runF_fuel l i _ _ _ (by omega) (by omega)
      · rfl
    have HST := Lib.hid hst
    clear hst
    by_cases h1 : i + k < l.length
    · have h1' : (i : Int) + (k : Int) < (l.length : Int) := by omega
      have hc2 := HR.out.cell (i + k) (by omega)
      rw [nis_at l (i + k) h1] at hc2
      have hd : decide ((i : Int) + (k : Int) < (l.length : Int)) = true := by simp; omega
      have ht : ((i : Int) + (k : Int)).toNat = i + k := by omega
      have q0 : (0 : Int) ≤ (i : Int) + (k : Int) := by omega
      by_cases hz : gN l (i + k) = gN l i
      · have hzb : ((gN l (i + k) : Int) == (gN l i : Int)) = true := by simp; omega
        have HZ := Lib.hid hz
        clear hz
        go_wp2_with fail
        have hww : IntKind.i64.wrap ((i : Int) + (k : Int)) = (i : Int) + (k : Int) := IntWalk.i64_in _ (by omega)
        go_quiet (fail)
        clear hww
        go_wp2
        go_roundw
        case rel => exact ⟨k + 1, _, by omega, by omega, by go_num, by first | rfl | rw [World.drewN_drewN], by rw [HU.out, HST.out, if_pos ⟨h1, HZ.out⟩]; rfl⟩
        case measure => simp [intOf]; omega
      · have hzb : ((gN l (i + k) : Int) == (gN l i : Int)) = false := by simp; omega
        go_wp2_with fail
        have hww : IntKind.i64.wrap ((i : Int) + (k : Int)) = (i : Int) + (k : Int) := IntWalk.i64_in _ (by omega)
        go_quiet (fail)
        clear hww
        go_wp2
        go_returns
        exact ⟨ret_int (by rw [HU.out, HST.out, if_neg (fun x => hz x.2)]), _, by first | rfl | rw [World.drewN_drewN]⟩
    · have h1' : ¬ (i : Int) + (k : Int) < (l.length : Int) := by omega
      have hd : decide ((i : Int) + (k : Int) < (l.length : Int)) = false := by simp; omega
      go_wp2
      go_quiet (fail)
      go_wp2
      go_returns
      exact ⟨ret_int (by rw [HU.out, HST.out, if_neg (fun x => h1 x.1)]), _, by first | rfl | rw [World.drewN_drewN]⟩
end Go.Proofs.YtakoidkeaccgeaaDoor

/- block: again, Pack. -/
namespace Go.Proofs.YtakoidkeaccgeaaDoor
open Go.RowKit Go.Shelf

theorem retG {a b : Value} (h : a = b) : Ending.returned a = .returned b := by rw [h]
set_option maxHeartbeats 3200000 in
set_option maxRecDepth 100000 in
theorem again_calls (v n : Nat) (hv : v ≤ 15) (hn : n ≤ 1000000) (w : World) :
    Calls Tryd.prog 35 #[.int .i64 (v : Int), .int .i64 (n : Int)] w fun e w' => e = .returned (.tuple #[xtra (againN v n).1, .int .i64 ((againN v n).2.1 : Int), .bool (againN v n).2.2]) ∧ Chg (fun _ => False) w w' := by
  by_cases hv0 : v = 0
  · subst hv0
    by_cases h11 : 11 ≤ n
    · have hr : againN 0 n = ((18, 7, min n 138 - 11), min n 138, true) := if_pos ⟨rfl, h11⟩
      have HR := Lib.hid hr
      have g1 : decide ((11 : Int) ≤ (n : Int)) = true := by simp; omega
      have hmin : min (n : Int) 138 = ((min n 138 : Nat) : Int) := by omega
      clear hr
      have HM := Lib.hid hmin
      clear hmin
      by_cases hle : n ≤ 138
      · have hle' : (n : Int) ≤ 138 := by omega
        go_enter Tryd.func35, Tryd.ntmps35
        go_wp2
        go_returns
        refine ⟨?_, (Chg.refl _ _).alloc _⟩
        rw [HR.out]
        unfold xtra
        refine retG ?_
        simp; omega
      · have hle' : ¬ (n : Int) ≤ 138 := by omega
        go_enter Tryd.func35, Tryd.ntmps35
        go_wp2
        go_returns
        refine ⟨?_, (Chg.refl _ _).alloc _⟩
        rw [HR.out]
        unfold xtra
        refine retG ?_
        simp; omega
    · by_cases h3 : 3 ≤ n
      · have hr : againN 0 n = ((17, 3, n - 3), n, true) := by unfold againN; rw [if_neg (fun x => h11 x.2), if_pos ⟨rfl, h3⟩]
        have HR := Lib.hid hr
        have g1 : decide ((11 : Int) ≤ (n : Int)) = false := by simp; omega
        have g2 : decide ((3 : Int) ≤ (n : Int)) = true := by simp; omega
        clear hr
        go_enter Tryd.func35, Tryd.ntmps35
        go_wp2
        go_returns
        refine ⟨?_, (Chg.refl _ _).alloc _⟩
        rw [HR.out]
        unfold xtra
        refine retG ?_
        simp; omega
      · have hr : againN 0 n = ((0, 0, 0), 0, false) := by unfold againN; rw [if_neg (fun x => h11 x.2), if_neg (fun x => h3 x.2), if_neg (fun x => x.1 rfl)]
        have HR := Lib.hid hr
        have g1 : decide ((11 : Int) ≤ (n : Int)) = false := by simp; omega
        have g2 : decide ((3 : Int) ≤ (n : Int)) = false := by simp; omega
        clear hr
        go_enter Tryd.func35, Tryd.ntmps35
        go_wp2
        go_returns
        refine ⟨?_, (Chg.refl _ _).alloc _⟩
        rw [HR.out]
        rfl
  · have hvb : ((v : Int) == 0) = false := by simp; omega
    have hvb' : ((v : Int) != 0) = true := by simp; omega
    by_cases h3 : 3 ≤ n
    · have hr : againN v n = ((16, 2, min n 6 - 3), min n 6, true) := by unfold againN; rw [if_neg (fun x => hv0 x.1), if_neg (fun x => hv0 x.1), if_pos ⟨hv0, h3⟩]
      have HR := Lib.hid hr
      have g2 : decide ((3 : Int) ≤ (n : Int)) = true := by simp; omega
      clear hr hv0
      by_cases hle : n ≤ 6
      · have hle' : (n : Int) ≤ 6 := by omega
        go_enter Tryd.func35, Tryd.ntmps35
        go_wp2
        go_returns
        refine ⟨?_, (Chg.refl _ _).alloc _⟩
        rw [HR.out]
        unfold xtra
        refine retG ?_
        simp; omega
      · have hle' : ¬ (n : Int) ≤ 6 := by omega
        go_enter Tryd.func35, Tryd.ntmps35
        go_wp2
        go_returns
        refine ⟨?_, (Chg.refl _ _).alloc _⟩
        rw [HR.out]
        unfold xtra
        refine retG ?_
        simp; omega
    · have hr : againN v n = ((0, 0, 0), 0, false) := by unfold againN; rw [if_neg (fun x => hv0 x.1), if_neg (fun x => hv0 x.1), if_neg (fun x => h3 x.2)]
      have HR := Lib.hid hr
      have g2 : decide ((3 : Int) ≤ (n : Int)) = false := by simp; omega
      clear hr hv0
      go_enter Tryd.func35, Tryd.ntmps35
      go_wp2
      go_returns
      refine ⟨?_, (Chg.refl _ _).alloc _⟩
      rw [HR.out]
      rfl
end Go.Proofs.YtakoidkeaccgeaaDoor
