/- block: counts. -/
import Derived.Test.YtakoidkeaccgeaaDoorJ9
import Derived.Test.YtakoidkeaccgeaaDoorJ11
namespace Go.Proofs.YtakoidkeaccgeaaDoor
open Go.RowKit Go.Shelf Go.Sort

def gT (l : List Tok) (i : Nat) : Tok := l.getD i ⟨0, 0, 0⟩
theorem gT_eq (l : List Tok) (i : Nat) (h : i < l.length) : l[i]'h = gT l i := by simp [gT, h]
theorem gT_mem (l : List Tok) (i : Nat) (h : i < l.length) : gT l i ∈ l := by rw [← gT_eq l i h]; exact List.getElem_mem h
/-- n zeros. -/
def zs (n : Nat) : List Nat := List.replicate n 0
theorem zs_length (n : Nat) : (zs n).length = n := List.length_replicate ..
theorem gN_zs (n i : Nat) : gN (zs n) i = 0 := by
  by_cases h : i < n
  · exact gN_rep _ _ _ h
  · exact gN_out _ _ (by rw [zs_length]; omega)
/-- The counts of the symbols of the first k tokens. -/
def cntK (l : List Tok) : Nat → List Nat × List Nat
  | 0 => ((zs 286).set 256 1, zs 30)
  | k + 1 => if (gT l k).len = 0 then (incr (cntK l k).1 (gT l k).byte, (cntK l k).2) else (incr (cntK l k).1 (lenSym (gT l k).len).1, incr (cntK l k).2 (distSym (gT l k).dist).1)
theorem cntK_ok (l : List Tok) : ∀ k, (cntK l k).1.length = 286 ∧ (cntK l k).2.length = 30 ∧ (∀ j, gN (cntK l k).1 j ≤ k + 1) ∧ ∀ j, gN (cntK l k).2 j ≤ k
  | 0 => by
    refine ⟨?_, zs_length 30, fun j => ?_, fun j => ?_⟩
    · show ((zs 286).set 256 1).length = 286
      rw [List.length_set, zs_length]
    · show gN ((zs 286).set 256 1) j ≤ 1
      rw [gN_set]
      split
      · omega
      · rw [gN_zs]; omega
    · show gN (zs 30) j ≤ 0
      rw [gN_zs]; omega
  | k + 1 => by
    obtain ⟨h1, h2, h3, h4⟩ := cntK_ok l k
    unfold cntK
    split
    · refine ⟨by rw [incr_length]; exact h1, h2, fun j => ?_, fun j => ?_⟩
      · have := gN_incr (cntK l k).1 (gT l k).byte j; have := h3 j; dsimp only; omega
      · have := h4 j; dsimp only; omega
    · refine ⟨by rw [incr_length]; exact h1, by rw [incr_length]; exact h2, fun j => ?_, fun j => ?_⟩
      · have := gN_incr (cntK l k).1 (lenSym (gT l k).len).1 j; have := h3 j; dsimp only; omega
      · have := gN_incr (cntK l k).2 (distSym (gT l k).dist).1 j; have := h4 j; dsimp only; omega
def zerosA (n : Nat) : Array Value := (nis (zs n)).toArray
theorem made_zeros (n : Nat) : madeCells (Value.int .i64 0).cells (n * 1) = zerosA n := by
  apply Array.ext'
  rw [nis_rep]
  rfl
theorem make_zeros (n : Nat) (hn : n ≤ 1000) (w : World) : (Instr.makeSlice 22 (.int .i64 (n : Int)) (.int .i64 (n : Int))).run Tryd.prog w = .ok (.slice (some ⟨w.heap.size, 0, none⟩) n n) (w.alloc (.cells (zerosA n) 3)) := by
  obtain ⟨ii, hii, hi0, hi1, hi2⟩ := info_parts infoInt
  have := run_make (P := Tryd.prog) w 22 3 ii (.int .i64 0) Tryd.underlying22 hii hi0 .i64 .i64 n n (by omega) (by omega) (by rw [hi2]; omega) (by omega)
  rw [this, hi1, Int.toNat_natCast, made_zeros]
/-- While counts are made. -/
def CntI (w W : World) (bs bd : Nat) (p : List Nat × List Nat) : Prop :=
  W.ownsRow w.heap.size 3 1 (.slice (some ⟨bs, 0, none⟩) 286 286) 286 (nis p.1) ∧ W.ownsRow w.heap.size 3 1 (.slice (some ⟨bd, 0, none⟩) 30 30) 30 (nis p.2) ∧ Chg (fun _ => False) w W
theorem own_zeros (w : World) (base n : Nat) (hn : n ≤ 1000) (hb : base ≤ w.heap.size) : (w.alloc (.cells (zerosA n) 3)).ownsRow base 3 1 (.slice (some ⟨w.heap.size, 0, none⟩) n n) n (nis (zs n)) := by
  refine ⟨by rw [nis_length, zs_length, Nat.mul_one], .inr ⟨w.heap.size, n, zerosA n, rfl, hb, heap_alloc_new w _, Nat.le_refl _, by unfold maxLen; omega, ?_, ?_⟩⟩
  · rw [zerosA, List.size_toArray, nis_length, zs_length, Nat.mul_one]
  · rw [zerosA, List.take_of_length_le]
    rw [nis_length, zs_length]; omega

set_option maxHeartbeats 6400000 in
set_option maxRecDepth 100000 in
theorem counts_calls (S : Nat → Prop) (v : Value) (l : List Tok) (w : World) (h : Row w S 27 3 v l.length (tks l)) (hl : ∀ t ∈ l, t.ok) (hll : l.length ≤ 65535) :
    Calls Tryd.prog 44 #[v] w fun e w' => ∃ v1 v2, e = .returned (.tuple #[v1, v2]) ∧ w'.ownsRow w.heap.size 3 1 v1 286 (nis (cntK l l.length).1) ∧ w'.ownsRow w.heap.size 3 1 v2 30 (nis (cntK l l.length).2) ∧ Chg (fun _ => False) w w' := by
  have hmk1 : ∀ W : World, (Instr.makeSlice 22 (.int .i64 286) (.int .i64 286)).run Tryd.prog W = .ok (.slice (some ⟨W.heap.size, 0, none⟩) 286 286) (W.alloc (.cells (zerosA 286) 3)) := fun W => make_zeros 286 (by omega) W
  have hmk2 : ∀ W : World, (Instr.makeSlice 22 (.int .i64 30) (.int .i64 30)).run Tryd.prog W = .ok (.slice (some ⟨W.heap.size, 0, none⟩) 30 30) (W.alloc (.cells (zerosA 30) 3)) := fun W => make_zeros 30 (by omega) W
  have hfld : ∀ (a b c : Int) (W : World), (Instr.field 72 (.agg #[.int .i64 a, .int .i64 b, .int .u64 c]) 0).run Tryd.prog W = .ok (.int .i64 a) W := fun _ _ _ _ => by kernel_rfl
  obtain ⟨A, c0, rfl, hm, hA⟩ := h.form
  have HR := Lib.hid h
  have HL := Lib.hid hl
  have HCK := Lib.hid (cntK_ok l)
  clear h hl hA
  unfold maxLen at hm
  go_enter Tryd.func44, Tryd.ntmps44
  go_wp2
  go_region
  · clear hmk1 hmk2
    have hs0 : CntI w (((w.alloc (.cells (zerosA 286) 3)).alloc (.cells (zerosA 30) 3)).drew) w.heap.size (w.heap.size + 1) (zs 286, zs 30) := by
      have h1 := own_zeros w w.heap.size 286 (by omega) (Nat.le_refl _)
      have h2 := own_zeros (w.alloc (.cells (zerosA 286) 3)) w.heap.size 30 (by omega) (by simp)
      have hc : Chg (fun _ => False) (w.alloc (.cells (zerosA 286) 3)) ((w.alloc (.cells (zerosA 286) 3)).alloc (.cells (zerosA 30) 3)) := (Chg.refl _ _).alloc _
      rw [World.size_alloc] at h2
      exact ⟨hc.own h1 (fun _ _ h => h), h2, (((Chg.refl _ w).alloc _).alloc _).drew⟩
    have hsz0 : (((w.alloc (.cells (zerosA 286) 3)).alloc (.cells (zerosA 30) 3)).drew).heap.size = w.heap.size + 2 := by simp
    generalize ((w.alloc (.cells (zerosA 286) 3)).alloc (.cells (zerosA 30) 3)).drew = W0 at *
    have hbne : w.heap.size ≠ (w.heap.size + 1) := by omega
    have hbsW : w.heap.size ≤ w.heap.size ∧ w.heap.size < W0.heap.size := by omega
    have hbdW : w.heap.size ≤ (w.heap.size + 1) ∧ (w.heap.size + 1) < W0.heap.size := by omega
    clear hsz0
    have HS0 := Lib.hid hs0
    have hc256 := (hs0.1.cellAt 256 (by omega)).trans (nis_at (zs 286) 256 (by rw [zs_length]; omega))
    have hf256 := hs0.1.frozenAt 256
    rw [gN_zs] at hc256
    clear hs0
    go_wp2
    have hs1 : CntI w (W0.setCell ⟨w.heap.size, 256, none⟩ (.int .i64 1)) w.heap.size (w.heap.size + 1) (cntK l 0) := by
      obtain ⟨h1, h2, h3⟩ := HS0.out
      have hx : Chg (fun k => k = w.heap.size) W0 (W0.setCell ⟨w.heap.size, 256, none⟩ (.int .i64 1)) := (Chg.refl (fun k => k = w.heap.size) W0).setCell (p := ⟨w.heap.size, 256, none⟩) (Or.inl rfl) _
      have h4 := (h1.stored 256 (.int .i64 ((1 : Nat) : Int))).1
      rw [nis_set] at h4
      exact ⟨h4, hx.own h2 (fun k hk he => by simp [Value.ownBlock] at hk; omega), h3.trans hx (fun k hk => Or.inr (by omega))⟩
    have hsz1 : (W0.setCell ⟨w.heap.size, 256, none⟩ (.int .i64 1)).heap.size = W0.heap.size := by simp
    have HS1 := Lib.hid hs1
    clear hs1 HS0 hc256 hf256
    generalize W0.setCell ⟨w.heap.size, 256, none⟩ (.int .i64 1) = W1 at *
    go_loopw [14] (fun i W => ∃ k : Nat, k ≤ l.length ∧ i = .int .i64 (k : Int) ∧ Hid (CntI w W w.heap.size (w.heap.size + 1) (cntK l k))) (fun i _ => l.length - (intOf i).toNat)
    case atStart => exact ⟨0, Nat.zero_le _, rfl, HS1.out⟩
    case round =>
      clear HS1 hsz1
      obtain ⟨k, hk, rfl, HI⟩ := hrel
      obtain ⟨hI1, hI2, hI3⟩ := HI.out
      have hck := HCK.out k
      by_cases hkl : k < l.length
      · have hrow := HR.out.chg hI3 (fun _ _ _ h => h)
        have htk := tks_at l k hkl
        rw [gT_eq l k hkl] at htk
        obtain ⟨g, off, rfl, _, hgl, hcell⟩ := hrow.at_ A c0 rfl (k * 3) (by omega)
        have hcell1 := hrow.cell (k * 3 + 1) (by omega)
        have hcell2 := hrow.cell (k * 3 + 2) (by omega)
        rw [htk.1] at hcell
        rw [htk.2.1, ← Nat.add_assoc] at hcell1
        rw [htk.2.2, ← Nat.add_assoc] at hcell2
        have hok := HL.out (gT l k) (gT_mem l k hkl)
        have hst : cntK l (k + 1) = if (gT l k).len = 0 then (incr (cntK l k).1 (gT l k).byte, (cntK l k).2) else (incr (cntK l k).1 (lenSym (gT l k).len).1, incr (cntK l k).2 (distSym (gT l k).dist).1) := rfl
        have HST := Lib.hid hst
        have hkl2 : (k : Int) < (l.length : Int) := by omega
        generalize gT l k = t at *
        generalize cntK l k = p at *
        obtain ⟨tb, tn, td⟩ := t
        obtain ⟨ps, pd⟩ := p
        dsimp only at *
        unfold Tok.ok at hok
        dsimp only at hok
        obtain ⟨hp1, hp2, hp3, hp4⟩ := hck
        have HI1 := Lib.hid hI1
        have HI2 := Lib.hid hI2
        have HI3 := Lib.hid hI3
        have hszw := hI3.size
        have hbl1 := own_blk_lt hI1 w.heap.size rfl
        have hbl2 := own_blk_lt hI2 (w.heap.size + 1) rfl
        have HP3 := Lib.hid hp3
        have HP4 := Lib.hid hp4
        have HP1 := Lib.hid hp1
        have HP2 := Lib.hid hp2
        have hal : Chg (fun _ => False) wr (wr.alloc (.cells #[.int .u8 (tb : Int), .int .i64 (tn : Int), .int .i64 (td : Int)] 27)) := (Chg.refl _ _).alloc _
        have HAL := Lib.hid hal
        clear hI1 hI2 hI3 hrow htk hst hp3 hp4 hp1 hp2 hal
        by_cases hn0 : tn = 0
        · obtain ⟨hd0, hb0⟩ : td = 0 ∧ tb < 256 := by omega
          subst hn0 hd0
          have hcx := (HI1.out.cellAt tb (by omega)).trans (nis_at ps tb (by rw [HP1.out]; omega))
          have hfx := HI1.out.frozenAt tb
          have hle := HP3.out tb
          have htb2 : (tb : Int) < 286 := by omega
          go_wp2
          go_roundw
          case rel =>
            refine ⟨k + 1, by omega, by go_num, ?_⟩
            rw [HST.out, if_pos rfl]
            have hx : Chg (fun k => k = w.heap.size) _ ((wr.setCell ⟨w.heap.size, tb, none⟩ (.int .i64 ((gN ps tb : Int) + 1))).alloc (.cells #[.int .u8 (tb : Int), .int .i64 0, .int .i64 0] 27)) := ((Chg.refl (fun k => k = w.heap.size) wr).setCell (p := ⟨w.heap.size, tb, none⟩) (Or.inl rfl) _).alloc _
            have h4 := (HI1.out.stored tb (.int .i64 ((gN ps tb + 1 : Nat) : Int))).1
            rw [nis_set, show ((gN ps tb + 1 : Nat) : Int) = (gN ps tb : Int) + 1 by omega] at h4
            exact ⟨((Chg.refl (fun _ => False) _).alloc _).own h4 (fun _ _ h => h), hx.own HI2.out (fun k hk he => by simp [Value.ownBlock] at hk; omega), HI3.out.trans hx (fun k hk => Or.inr (by omega))⟩
          case measure => simp [intOf]; omega
        · obtain ⟨hb0, hn3, hn258, hd1, hd2⟩ : tb = 0 ∧ 3 ≤ tn ∧ tn ≤ 258 ∧ 1 ≤ td ∧ td ≤ 32768 := by omega
          have hls := lenSym_ok tn hn3
          have hds := distSym_ok td hd1
          have hnb : ((tn : Int) == 0) = false := by simp; omega
          subst hb0
          go_wp2_with fail
          refine (length_calls tn hn3 hn258 _).mono ?_
          rintro e w5 ⟨rfl, hc5⟩
          have hc05 := HAL.out.trans hc5 (fun _ h => h.elim)
          have h5S := hc05.own HI1.out (fun _ _ h => h)
          have h5D := hc05.own HI2.out (fun _ _ h => h)
          have hbk := (Blk.new wr #[.int .u8 0, .int .i64 (tn : Int), .int .i64 (td : Int)] 27).chg hc5 (fun h => h)
          unfold xtra
          generalize hlx : lenSym tn = x at *
          obtain ⟨x1, x2, x3⟩ := x
          dsimp only at *
          have hcx := (h5S.cellAt x1 (by omega)).trans (nis_at ps x1 (by rw [HP1.out]; omega))
          have hfx := h5S.frozenAt x1
          have hlex := HP3.out x1
          have hx286 : (x1 : Int) < 286 := by omega
          have k2 : w5.cell? ⟨wr.heap.size, 2, none⟩ = some (.int .i64 (td : Int)) := hbk.cell 2
          have hq : ∀ u, (w5.setCell ⟨w.heap.size, x1, none⟩ u).cell? ⟨wr.heap.size, 2, none⟩ = some (.int .i64 (td : Int)) := fun u => by
            rw [World.cell?_setCell_other _ _ _ _ (fun e => by injection e with e1; omega)]; exact k2
          have H5S := Lib.hid h5S
          have H5D := Lib.hid h5D
          have H05 := Lib.hid hc05
          have hs5 := hc05.size
          clear h5S h5D hc05 hbk hls hlx hc5
          go_wp2_with fail
          refine (dist_calls td hd1 hd2 _).mono ?_
          rintro e w6 ⟨rfl, hc6⟩
          have hx : Chg (fun k => k = w.heap.size) w5 (w5.setCell ⟨w.heap.size, x1, none⟩ (.int .i64 ((gN ps x1 : Int) + 1))) := (Chg.refl (fun k => k = w.heap.size) w5).setCell (p := ⟨w.heap.size, x1, none⟩) (Or.inl rfl) _
          have h4 := (H5S.out.stored x1 (.int .i64 ((gN ps x1 + 1 : Nat) : Int))).1
          rw [nis_set, show ((gN ps x1 + 1 : Nat) : Int) = (gN ps x1 : Int) + 1 by omega] at h4
          have h6S := hc6.own h4 (fun _ _ h => h)
          have h6D := hc6.own (hx.own H5D.out (fun k hk he => by simp [Value.ownBlock] at hk; omega)) (fun _ _ h => h)
          have hc06 := ((HI3.out.trans H05.out (fun _ h => h.elim)).trans hx (fun k hk => Or.inr (by omega))).trans hc6 (fun _ h => h.elim)
          unfold xtra
          generalize hlx : distSym td = y at *
          obtain ⟨y1, y2, y3⟩ := y
          dsimp only at *
          have hcy := (h6D.cellAt y1 (by omega)).trans (nis_at pd y1 (by rw [HP2.out]; omega))
          have hfy := h6D.frozenAt y1
          have hley := HP4.out y1
          have hy30 : (y1 : Int) < 30 := by omega
          have H6S := Lib.hid h6S
          have H6D := Lib.hid h6D
          have H06 := Lib.hid hc06
          clear h6S h6D hc06 hc6 hx h4 hq k2 hcx hfx hds hlx
          go_wp2
          go_roundw
          case rel =>
            refine ⟨k + 1, by omega, by go_num, ?_⟩
            rw [HST.out, if_neg hn0]
            have hy : Chg (fun k => k = (w.heap.size + 1)) w6 (w6.setCell ⟨(w.heap.size + 1), y1, none⟩ (.int .i64 ((gN pd y1 : Int) + 1))) := (Chg.refl (fun k => k = (w.heap.size + 1)) w6).setCell (p := ⟨(w.heap.size + 1), y1, none⟩) (Or.inl rfl) _
            have h5 := (H6D.out.stored y1 (.int .i64 ((gN pd y1 + 1 : Nat) : Int))).1
            rw [nis_set, show ((gN pd y1 + 1 : Nat) : Int) = (gN pd y1 : Int) + 1 by omega] at h5
            exact ⟨hy.own H6S.out (fun k hk he => by simp [Value.ownBlock] at hk; omega), h5, H06.out.trans hy (fun k hk => Or.inr (by omega))⟩
          case measure => simp [intOf]; omega
      · obtain rfl : k = l.length := by omega
        go_wp2
        go_returns
        exact ⟨_, _, rfl, hI1, hI2, hI3⟩
  · clear hmk1 hmk2
    have hs0 : CntI w (((w.alloc (.cells (zerosA 30) 3)).alloc (.cells (zerosA 286) 3)).drew) (w.heap.size + 1) w.heap.size (zs 286, zs 30) := by
      have h1 := own_zeros w w.heap.size 30 (by omega) (Nat.le_refl _)
      have h2 := own_zeros (w.alloc (.cells (zerosA 30) 3)) w.heap.size 286 (by omega) (by simp)
      have hc : Chg (fun _ => False) (w.alloc (.cells (zerosA 30) 3)) ((w.alloc (.cells (zerosA 30) 3)).alloc (.cells (zerosA 286) 3)) := (Chg.refl _ _).alloc _
      rw [World.size_alloc] at h2
      exact ⟨h2, hc.own h1 (fun _ _ h => h), (((Chg.refl _ w).alloc _).alloc _).drew⟩
    have hsz0 : (((w.alloc (.cells (zerosA 30) 3)).alloc (.cells (zerosA 286) 3)).drew).heap.size = w.heap.size + 2 := by simp
    generalize ((w.alloc (.cells (zerosA 30) 3)).alloc (.cells (zerosA 286) 3)).drew = W0 at *
    have hbne : (w.heap.size + 1) ≠ w.heap.size := by omega
    have hbsW : w.heap.size ≤ (w.heap.size + 1) ∧ (w.heap.size + 1) < W0.heap.size := by omega
    have hbdW : w.heap.size ≤ w.heap.size ∧ w.heap.size < W0.heap.size := by omega
    clear hsz0
    have HS0 := Lib.hid hs0
    have hc256 := (hs0.1.cellAt 256 (by omega)).trans (nis_at (zs 286) 256 (by rw [zs_length]; omega))
    have hf256 := hs0.1.frozenAt 256
    rw [gN_zs] at hc256
    clear hs0
    go_wp2
    have hs1 : CntI w (W0.setCell ⟨(w.heap.size + 1), 256, none⟩ (.int .i64 1)) (w.heap.size + 1) w.heap.size (cntK l 0) := by
      obtain ⟨h1, h2, h3⟩ := HS0.out
      have hx : Chg (fun k => k = (w.heap.size + 1)) W0 (W0.setCell ⟨(w.heap.size + 1), 256, none⟩ (.int .i64 1)) := (Chg.refl (fun k => k = (w.heap.size + 1)) W0).setCell (p := ⟨(w.heap.size + 1), 256, none⟩) (Or.inl rfl) _
      have h4 := (h1.stored 256 (.int .i64 ((1 : Nat) : Int))).1
      rw [nis_set] at h4
      exact ⟨h4, hx.own h2 (fun k hk he => by simp [Value.ownBlock] at hk; omega), h3.trans hx (fun k hk => Or.inr (by omega))⟩
    have hsz1 : (W0.setCell ⟨(w.heap.size + 1), 256, none⟩ (.int .i64 1)).heap.size = W0.heap.size := by simp
    have HS1 := Lib.hid hs1
    clear hs1 HS0 hc256 hf256
    generalize W0.setCell ⟨(w.heap.size + 1), 256, none⟩ (.int .i64 1) = W1 at *
    go_loopw [14] (fun i W => ∃ k : Nat, k ≤ l.length ∧ i = .int .i64 (k : Int) ∧ Hid (CntI w W (w.heap.size + 1) w.heap.size (cntK l k))) (fun i _ => l.length - (intOf i).toNat)
    case atStart => exact ⟨0, Nat.zero_le _, rfl, HS1.out⟩
    case round =>
      clear HS1 hsz1
      obtain ⟨k, hk, rfl, HI⟩ := hrel
      obtain ⟨hI1, hI2, hI3⟩ := HI.out
      have hck := HCK.out k
      by_cases hkl : k < l.length
      · have hrow := HR.out.chg hI3 (fun _ _ _ h => h)
        have htk := tks_at l k hkl
        rw [gT_eq l k hkl] at htk
        obtain ⟨g, off, rfl, _, hgl, hcell⟩ := hrow.at_ A c0 rfl (k * 3) (by omega)
        have hcell1 := hrow.cell (k * 3 + 1) (by omega)
        have hcell2 := hrow.cell (k * 3 + 2) (by omega)
        rw [htk.1] at hcell
        rw [htk.2.1, ← Nat.add_assoc] at hcell1
        rw [htk.2.2, ← Nat.add_assoc] at hcell2
        have hok := HL.out (gT l k) (gT_mem l k hkl)
        have hst : cntK l (k + 1) = if (gT l k).len = 0 then (incr (cntK l k).1 (gT l k).byte, (cntK l k).2) else (incr (cntK l k).1 (lenSym (gT l k).len).1, incr (cntK l k).2 (distSym (gT l k).dist).1) := rfl
        have HST := Lib.hid hst
        have hkl2 : (k : Int) < (l.length : Int) := by omega
        generalize gT l k = t at *
        generalize cntK l k = p at *
        obtain ⟨tb, tn, td⟩ := t
        obtain ⟨ps, pd⟩ := p
        dsimp only at *
        unfold Tok.ok at hok
        dsimp only at hok
        obtain ⟨hp1, hp2, hp3, hp4⟩ := hck
        have HI1 := Lib.hid hI1
        have HI2 := Lib.hid hI2
        have HI3 := Lib.hid hI3
        have hszw := hI3.size
        have hbl1 := own_blk_lt hI1 (w.heap.size + 1) rfl
        have hbl2 := own_blk_lt hI2 w.heap.size rfl
        have HP3 := Lib.hid hp3
        have HP4 := Lib.hid hp4
        have HP1 := Lib.hid hp1
        have HP2 := Lib.hid hp2
        have hal : Chg (fun _ => False) wr (wr.alloc (.cells #[.int .u8 (tb : Int), .int .i64 (tn : Int), .int .i64 (td : Int)] 27)) := (Chg.refl _ _).alloc _
        have HAL := Lib.hid hal
        clear hI1 hI2 hI3 hrow htk hst hp3 hp4 hp1 hp2 hal
        by_cases hn0 : tn = 0
        · obtain ⟨hd0, hb0⟩ : td = 0 ∧ tb < 256 := by omega
          subst hn0 hd0
          have hcx := (HI1.out.cellAt tb (by omega)).trans (nis_at ps tb (by rw [HP1.out]; omega))
          have hfx := HI1.out.frozenAt tb
          have hle := HP3.out tb
          have htb2 : (tb : Int) < 286 := by omega
          go_wp2
          go_roundw
          case rel =>
            refine ⟨k + 1, by omega, by go_num, ?_⟩
            rw [HST.out, if_pos rfl]
            have hx : Chg (fun k => k = (w.heap.size + 1)) _ ((wr.setCell ⟨(w.heap.size + 1), tb, none⟩ (.int .i64 ((gN ps tb : Int) + 1))).alloc (.cells #[.int .u8 (tb : Int), .int .i64 0, .int .i64 0] 27)) := ((Chg.refl (fun k => k = (w.heap.size + 1)) wr).setCell (p := ⟨(w.heap.size + 1), tb, none⟩) (Or.inl rfl) _).alloc _
            have h4 := (HI1.out.stored tb (.int .i64 ((gN ps tb + 1 : Nat) : Int))).1
            rw [nis_set, show ((gN ps tb + 1 : Nat) : Int) = (gN ps tb : Int) + 1 by omega] at h4
            exact ⟨((Chg.refl (fun _ => False) _).alloc _).own h4 (fun _ _ h => h), hx.own HI2.out (fun k hk he => by simp [Value.ownBlock] at hk; omega), HI3.out.trans hx (fun k hk => Or.inr (by omega))⟩
          case measure => simp [intOf]; omega
        · obtain ⟨hb0, hn3, hn258, hd1, hd2⟩ : tb = 0 ∧ 3 ≤ tn ∧ tn ≤ 258 ∧ 1 ≤ td ∧ td ≤ 32768 := by omega
          have hls := lenSym_ok tn hn3
          have hds := distSym_ok td hd1
          have hnb : ((tn : Int) == 0) = false := by simp; omega
          subst hb0
          go_wp2_with fail
          refine (length_calls tn hn3 hn258 _).mono ?_
          rintro e w5 ⟨rfl, hc5⟩
          have hc05 := HAL.out.trans hc5 (fun _ h => h.elim)
          have h5S := hc05.own HI1.out (fun _ _ h => h)
          have h5D := hc05.own HI2.out (fun _ _ h => h)
          have hbk := (Blk.new wr #[.int .u8 0, .int .i64 (tn : Int), .int .i64 (td : Int)] 27).chg hc5 (fun h => h)
          unfold xtra
          generalize hlx : lenSym tn = x at *
          obtain ⟨x1, x2, x3⟩ := x
          dsimp only at *
          have hcx := (h5S.cellAt x1 (by omega)).trans (nis_at ps x1 (by rw [HP1.out]; omega))
          have hfx := h5S.frozenAt x1
          have hlex := HP3.out x1
          have hx286 : (x1 : Int) < 286 := by omega
          have k2 : w5.cell? ⟨wr.heap.size, 2, none⟩ = some (.int .i64 (td : Int)) := hbk.cell 2
          have hq : ∀ u, (w5.setCell ⟨(w.heap.size + 1), x1, none⟩ u).cell? ⟨wr.heap.size, 2, none⟩ = some (.int .i64 (td : Int)) := fun u => by
            rw [World.cell?_setCell_other _ _ _ _ (fun e => by injection e with e1; omega)]; exact k2
          have H5S := Lib.hid h5S
          have H5D := Lib.hid h5D
          have H05 := Lib.hid hc05
          have hs5 := hc05.size
          clear h5S h5D hc05 hbk hls hlx hc5
          go_wp2_with fail
          refine (dist_calls td hd1 hd2 _).mono ?_
          rintro e w6 ⟨rfl, hc6⟩
          have hx : Chg (fun k => k = (w.heap.size + 1)) w5 (w5.setCell ⟨(w.heap.size + 1), x1, none⟩ (.int .i64 ((gN ps x1 : Int) + 1))) := (Chg.refl (fun k => k = (w.heap.size + 1)) w5).setCell (p := ⟨(w.heap.size + 1), x1, none⟩) (Or.inl rfl) _
          have h4 := (H5S.out.stored x1 (.int .i64 ((gN ps x1 + 1 : Nat) : Int))).1
          rw [nis_set, show ((gN ps x1 + 1 : Nat) : Int) = (gN ps x1 : Int) + 1 by omega] at h4
          have h6S := hc6.own h4 (fun _ _ h => h)
          have h6D := hc6.own (hx.own H5D.out (fun k hk he => by simp [Value.ownBlock] at hk; omega)) (fun _ _ h => h)
          have hc06 := ((HI3.out.trans H05.out (fun _ h => h.elim)).trans hx (fun k hk => Or.inr (by omega))).trans hc6 (fun _ h => h.elim)
          unfold xtra
          generalize hlx : distSym td = y at *
          obtain ⟨y1, y2, y3⟩ := y
          dsimp only at *
          have hcy := (h6D.cellAt y1 (by omega)).trans (nis_at pd y1 (by rw [HP2.out]; omega))
          have hfy := h6D.frozenAt y1
          have hley := HP4.out y1
          have hy30 : (y1 : Int) < 30 := by omega
          have H6S := Lib.hid h6S
          have H6D := Lib.hid h6D
          have H06 := Lib.hid hc06
          clear h6S h6D hc06 hc6 hx h4 hq k2 hcx hfx hds hlx
          go_wp2
          go_roundw
          case rel =>
            refine ⟨k + 1, by omega, by go_num, ?_⟩
            rw [HST.out, if_neg hn0]
            have hy : Chg (fun k => k = w.heap.size) w6 (w6.setCell ⟨w.heap.size, y1, none⟩ (.int .i64 ((gN pd y1 : Int) + 1))) := (Chg.refl (fun k => k = w.heap.size) w6).setCell (p := ⟨w.heap.size, y1, none⟩) (Or.inl rfl) _
            have h5 := (H6D.out.stored y1 (.int .i64 ((gN pd y1 + 1 : Nat) : Int))).1
            rw [nis_set, show ((gN pd y1 + 1 : Nat) : Int) = (gN pd y1 : Int) + 1 by omega] at h5
            exact ⟨hy.own H6S.out (fun k hk he => by simp [Value.ownBlock] at hk; omega), h5, H06.out.trans hy (fun k hk => Or.inr (by omega))⟩
          case measure => simp [intOf]; omega
      · obtain rfl : k = l.length := by omega
        go_wp2
        go_returns
        exact ⟨_, _, rfl, hI1, hI2, hI3⟩
end Go.Proofs.YtakoidkeaccgeaaDoor

/- Plain: what a Dynamic block's coder is. -/
namespace Go.Proofs.YtakoidkeaccgeaaDoor

def gX (l : List (Nat × Nat × Nat)) (i : Nat) : Nat × Nat × Nat := l.getD i (0, 0, 0)
theorem gX_mem (l : List (Nat × Nat × Nat)) (i : Nat) (h : i < l.length) : gX l i ∈ l := by
  unfold gX; rw [List.getD_eq_getElem?_getD, List.getElem?_eq_getElem h]; exact List.getElem_mem h
def ordL : List Nat := [16, 17, 18, 0, 8, 7, 9, 6, 10, 5, 11, 4, 12, 3, 13, 2, 14, 1, 15]
def ordN (i : Nat) : Nat := gN ordL i
theorem ordN_lt : ∀ i, i < 19 → ordN i < 19 := by decide +kernel
/-- How many lengths of the teller are told. -/
def cutN (z : List Nat) : Nat → Nat
  | 0 => 0
  | k + 1 => if 4 < k + 1 ∧ gN z (ordN k) = 0 then cutN z k else k + 1
theorem cutN_le (z : List Nat) : ∀ k, cutN z k ≤ k ∧ (4 ≤ k → 4 ≤ cutN z k)
  | 0 => ⟨Nat.le_refl _, fun h => by omega⟩
  | k + 1 => by
    have := cutN_le z k
    rw [show cutN z (k + 1) = if 4 < k + 1 ∧ gN z (ordN k) = 0 then cutN z k else k + 1 from rfl]
    split
    · exact ⟨by omega, fun h => this.2 (by omega)⟩
    · exact ⟨Nat.le_refl _, fun h => h⟩
theorem cutN_zero (z : List Nat) : ∀ k i, cutN z k ≤ i → i < k → gN z (ordN i) = 0
  | 0, i, _, h => by omega
  | k + 1, i, h, hi => by
    rw [show cutN z (k + 1) = if 4 < k + 1 ∧ gN z (ordN k) = 0 then cutN z k else k + 1 from rfl] at h
    split at h
    · rename_i hc
      by_cases e : i = k
      · rw [e]; exact hc.2
      · exact cutN_zero z k i h (by omega)
    · omega
theorem uptoN_le (l : List Nat) (least : Nat) : ∀ n, uptoN l least n ≤ n ∧ (least ≤ n → least ≤ uptoN l least n)
  | 0 => ⟨Nat.le_refl _, fun h => h⟩
  | n + 1 => by
    have := uptoN_le l least n
    rw [show uptoN l least (n + 1) = if least < n + 1 ∧ gN l n = 0 then uptoN l least n else n + 1 from rfl]
    split
    · exact ⟨by omega, fun h => this.2 (by omega)⟩
    · exact ⟨Nat.le_refl _, fun h => h⟩
theorem uptoN_zero (l : List Nat) (least : Nat) : ∀ n i, uptoN l least n ≤ i → i < n → gN l i = 0
  | 0, i, _, h => by omega
  | n + 1, i, h, hi => by
    rw [show uptoN l least (n + 1) = if least < n + 1 ∧ gN l n = 0 then uptoN l least n else n + 1 from rfl] at h
    split at h
    · rename_i hc
      by_cases e : i = n
      · rw [e]; exact hc.2
      · exact uptoN_zero l least n i h (by omega)
    · omega
/-- How often each symbol comes among the first k. -/
def oftK (t : List (Nat × Nat × Nat)) : Nat → List Nat
  | 0 => zs 19
  | k + 1 => incr (oftK t k) (gX t k).1
theorem oftK_length (t : List (Nat × Nat × Nat)) : ∀ k, (oftK t k).length = 19
  | 0 => zs_length 19
  | k + 1 => by rw [oftK, incr_length, oftK_length t k]
theorem oftK_le (t : List (Nat × Nat × Nat)) : ∀ k j, gN (oftK t k) j ≤ k
  | 0, j => by rw [oftK, gN_zs]; exact Nat.le_refl _
  | k + 1, j => by
    have h1 := oftK_le t k j
    have h2 := gN_incr (oftK t k) (gX t k).1 j
    rw [oftK]; omega
theorem oftK_pos (t : List (Nat × Nat × Nat)) (ht : ∀ x ∈ t, x.1 ≤ 18) : ∀ k, k ≤ t.length → ∀ i, i < k → 0 < gN (oftK t k) (gX t i).1
  | 0, _, i, h => by omega
  | k + 1, hk, i, h => by
    have hm := ht _ (gX_mem t k (by omega))
    rw [oftK, gN_incr_eq _ _ _ (by rw [oftK_length]; omega)]
    by_cases e : i = k
    · subst e; rw [if_pos rfl]; omega
    · have := oftK_pos t ht k (by omega) i (by omega)
      omega
/-- A told symbol that may be. -/
def XOk (x : Nat × Nat × Nat) : Prop := (x.1 ≤ 15 ∧ x.2.1 = 0 ∧ x.2.2 = 0) ∨ (x.1 = 16 ∧ x.2.1 = 2 ∧ x.2.2 ≤ 3) ∨ (x.1 = 17 ∧ x.2.1 = 3 ∧ x.2.2 ≤ 7) ∨ (x.1 = 18 ∧ x.2.1 = 7 ∧ x.2.2 ≤ 127)
theorem againN_ok (v n : Nat) (h : (againN v n).2.2 = true) : XOk (againN v n).1 := by
  unfold againN at *
  split
  · unfold XOk; dsimp only; omega
  · rename_i h1
    rw [if_neg h1] at h
    split
    · unfold XOk; dsimp only; omega
    · rename_i h2
      rw [if_neg h2] at h
      split
      · unfold XOk; dsimp only; omega
      · rename_i h3
        rw [if_neg h3] at h
        simp at h
theorem packIn_ok (v : Nat) (hv : v ≤ 15) : ∀ f n, ∀ x ∈ packIn v f n, XOk x
  | 0, n, x, h => by simp [packIn] at h
  | f + 1, n, x, h => by
    rw [packIn] at h
    split at h
    · split at h
      · rename_i ha
        rcases List.mem_cons.1 h with rfl | h
        · exact againN_ok v n ha
        · exact packIn_ok v hv f _ x h
      · rcases List.mem_cons.1 h with rfl | h
        · exact Or.inl ⟨hv, rfl, rfl⟩
        · exact packIn_ok v hv f _ x h
    · simp at h
theorem packRun_ok (v n : Nat) (hv : v ≤ 15) : ∀ x ∈ packRun v n, XOk x := by
  intro x h
  unfold packRun at h
  split at h
  · rcases List.mem_cons.1 h with rfl | h
    · exact Or.inl ⟨hv, rfl, rfl⟩
    · exact packIn_ok v hv _ _ x h
  · exact packIn_ok v hv _ _ x h
theorem packOut_ok (l : List Nat) (hl : ∀ n ∈ l, n ≤ 15) : ∀ f i, ∀ x ∈ packOut l f i, XOk x
  | 0, i, x, h => by simp [packOut] at h
  | f + 1, i, x, h => by
    rw [packOut] at h
    split at h
    · rename_i hi
      rcases List.mem_append.1 h with h | h
      · exact packRun_ok _ _ (hl _ (gN_mem l i hi)) x h
      · exact packOut_ok l hl f _ x h
    · simp at h
theorem packN_pos (l : List Nat) (h : 1 ≤ l.length) : 1 ≤ (packN l).length := by
  unfold packN
  obtain ⟨f, hf⟩ : ∃ f, l.length = f + 1 := ⟨l.length - 1, by omega⟩
  have hr := runN_le l 0 (by omega)
  rw [hf, packOut, if_pos (by omega), List.length_append]
  have : 1 ≤ (packRun (gN l 0) (runN l 0)).length := by
    unfold packRun
    split
    · simp
    · obtain ⟨g, hg⟩ : ∃ g, runN l 0 = g + 1 := ⟨runN l 0 - 1, by omega⟩
      rw [hg, packIn, if_pos (by omega)]
      split <;> simp
  omega

def dynX (l : List Tok) : List Nat := strictN (cntK l l.length).1 15
def dynY (l : List Tok) : List Nat := mergeN (cntK l l.length).2 15
def dynA (l : List Tok) : Nat := uptoN (dynX l) 257 286
def dynB (l : List Tok) : Nat := uptoN (dynY l) 1 30
def dynXs (l : List Tok) : List Nat := (dynX l).take (dynA l)
def dynYs (l : List Tok) : List Nat := (dynY l).take (dynB l)
def dynT (l : List Tok) : List (Nat × Nat × Nat) := packN (dynXs l ++ dynYs l)
def dynZ (l : List Tok) : List Nat := strictN (oftK (dynT l) (dynT l).length) 7
def dynC (l : List Tok) : Nat := cutN (dynZ l) 19
theorem cntK_end (l : List Tok) : ∀ k, 1 ≤ gN (cntK l k).1 256
  | 0 => by
    show 1 ≤ gN ((zs 286).set 256 1) 256
    rw [gN_set, if_pos ⟨rfl, by rw [zs_length]; omega⟩]; exact Nat.le_refl _
  | k + 1 => by
    have ih := cntK_end l k
    have h286 := (cntK_ok l k).1
    have hi : ∀ i, 1 ≤ gN (incr (cntK l k).1 i) 256 := fun i => by
      unfold incr
      rw [gN_set]
      split
      · omega
      · exact ih
    rw [show cntK l (k + 1) = if (gT l k).len = 0 then (incr (cntK l k).1 (gT l k).byte, (cntK l k).2) else (incr (cntK l k).1 (lenSym (gT l k).len).1, incr (cntK l k).2 (distSym (gT l k).dist).1) from rfl]
    split
    · exact hi _
    · exact hi _
theorem order_pos (c : List Nat) (s : Nat) (h : s < c.length) (hp : 0 < gN c s) : 1 ≤ (orderN c).length :=
  List.length_pos_of_mem ((mem_orderN c s).2 ⟨h, hp⟩)
theorem mem_le (l : List Nat) (B : Nat) (h : ∀ i, gN l i ≤ B) : ∀ n ∈ l, n ≤ B := by
  intro n hn
  obtain ⟨i, hi, e⟩ := List.getElem_of_mem hn
  have := h i
  rw [← gN_eq l i hi, e] at this
  exact this
structure DynOk (l : List Tok) : Prop where
  lenX : (dynX l).length = 286
  lenY : (dynY l).length = 30
  a1 : 257 ≤ dynA l
  a2 : dynA l ≤ 286
  b1 : 1 ≤ dynB l
  b2 : dynB l ≤ 30
  lenXs : (dynXs l).length = dynA l
  lenYs : (dynYs l).length = dynB l
  xs15 : ∀ n ∈ dynXs l, n ≤ 15
  ys15 : ∀ n ∈ dynYs l, n ≤ 15
  errX : newErr (dynXs l) false = 0
  errY : newErr (dynYs l) true = 0
  lenT : (dynT l).length ≤ 316
  okT : ∀ x ∈ dynT l, XOk x
  posT : 1 ≤ (dynT l).length
  lenZ : (dynZ l).length = 19
  z7 : ∀ n ∈ dynZ l, n ≤ 7
  errZ : newErr (dynZ l) false = 0
  c1 : 4 ≤ dynC l
  c2 : dynC l ≤ 19
  hoX : (orderN (cntK l l.length).1).length ≤ 2 ^ 15
  hoY : (orderN (cntK l l.length).2).length ≤ 2 ^ 15
  hoZ : (orderN (oftK (dynT l) (dynT l).length)).length ≤ 2 ^ 7
  posX : ∀ s, s < 286 → 0 < gN (cntK l l.length).1 s → 1 ≤ gN (dynXs l) s
  posY : ∀ s, s < 30 → 0 < gN (cntK l l.length).2 s → 1 ≤ gN (dynYs l) s
  posZ : ∀ s, s < 19 → 0 < gN (oftK (dynT l) (dynT l).length) s → 1 ≤ gN (dynZ l) s
theorem gN_take_pos (l : List Nat) (least n s : Nat) (hn : l.length = n) (hp : 1 ≤ gN l s) : 1 ≤ gN (l.take (uptoN l least n)) s := by
  have hs : s < n := by
    rcases Nat.lt_or_ge s n with h | h
    · exact h
    · rw [gN_out l s (by omega)] at hp; omega
  have hlt : s < uptoN l least n := by
    rcases Nat.lt_or_ge s (uptoN l least n) with h | h
    · exact h
    · rw [uptoN_zero l least n s h hs] at hp; omega
  rw [gN_take _ _ _ hlt]; exact hp
theorem dyn_ok (l : List Tok) : DynOk l := by
  obtain ⟨c286, c30, _, _⟩ := cntK_ok l l.length
  have hoX : (orderN (cntK l l.length).1).length ≤ 2 ^ 15 := Nat.le_trans (orderN_length _) (by rw [c286]; decide)
  have hoY : (orderN (cntK l l.length).2).length ≤ 2 ^ 15 := Nat.le_trans (orderN_length _) (by rw [c30]; decide)
  have hX := strict_facts (cntK l l.length).1 15 (by omega) (by omega) (by omega) (order_pos _ 256 (by omega) (cntK_end l l.length)) hoX
  have hY1 := merge_le (cntK l l.length).2 15 (by omega) hoY
  have hY2 := loose_facts (cntK l l.length).2 15 (by omega) (by omega) hoY
  have hY3 := merge_pos (cntK l l.length).2 15 (by omega) hoY
  have lenX : (dynX l).length = 286 := by unfold dynX; rw [strictN_length, c286]
  have lenY : (dynY l).length = 30 := by unfold dynY; rw [mergeN_length, c30]
  have hA := uptoN_le (dynX l) 257 286
  have hB := uptoN_le (dynY l) 1 30
  have a1 : 257 ≤ dynA l := hA.2 (by omega)
  have a2 : dynA l ≤ 286 := hA.1
  have b1 : 1 ≤ dynB l := hB.2 (by omega)
  have b2 : dynB l ≤ 30 := hB.1
  have lenXs : (dynXs l).length = dynA l := by unfold dynXs; rw [List.length_take]; omega
  have lenYs : (dynYs l).length = dynB l := by unfold dynYs; rw [List.length_take]; omega
  have xs15 : ∀ n ∈ dynXs l, n ≤ 15 := fun n hn => mem_le (dynX l) 15 hX.1 n (List.mem_of_mem_take hn)
  have ys15 : ∀ n ∈ dynYs l, n ≤ 15 := fun n hn => mem_le (dynY l) 15 hY1 n (List.mem_of_mem_take hn)
  have errX : newErr (dynXs l) false = 0 := by
    unfold dynXs
    rw [newErr_take _ _ _ (by omega) (fun i hi => by
      rcases Nat.lt_or_ge i 286 with h | h
      · exact uptoN_zero _ _ _ i hi h
      · exact gN_out _ _ (by omega))]
    exact hX.2.1
  have errY : newErr (dynYs l) true = 0 := by
    unfold dynYs
    rw [newErr_take _ _ _ (by omega) (fun i hi => by
      rcases Nat.lt_or_ge i 30 with h | h
      · exact uptoN_zero _ _ _ i hi h
      · exact gN_out _ _ (by omega))]
    exact hY2
  have lenXY : (dynXs l ++ dynYs l).length = dynA l + dynB l := by rw [List.length_append, lenXs, lenYs]
  have lenT : (dynT l).length ≤ 316 := by
    have := packOut_length (dynXs l ++ dynYs l) (dynXs l ++ dynYs l).length 0
    unfold dynT packN
    omega
  have okT : ∀ x ∈ dynT l, XOk x := packOut_ok _ (fun n hn => (List.mem_append.1 hn).elim (xs15 n) (ys15 n)) _ _
  have posT : 1 ≤ (dynT l).length := packN_pos _ (by omega)
  have hle18 : ∀ x ∈ dynT l, x.1 ≤ 18 := fun x hx => by have := okT x hx; unfold XOk at this; omega
  have o19 := oftK_length (dynT l) (dynT l).length
  have hoZ : (orderN (oftK (dynT l) (dynT l).length)).length ≤ 2 ^ 7 := Nat.le_trans (orderN_length _) (by rw [o19]; decide)
  have hpz := oftK_pos (dynT l) hle18 _ (Nat.le_refl _) 0 (by omega)
  have hZ := strict_facts (oftK (dynT l) (dynT l).length) 7 (by omega) (by omega) (by omega) (order_pos _ (gX (dynT l) 0).1 (by have := hle18 _ (gX_mem _ 0 posT); omega) hpz) hoZ
  have hC := cutN_le (dynZ l) 19
  exact ⟨lenX, lenY, a1, a2, b1, b2, lenXs, lenYs, xs15, ys15, errX, errY, lenT, okT, posT, by unfold dynZ; rw [strictN_length, o19], mem_le _ _ hZ.1, hZ.2.1, hC.2 (by omega), hC.1, hoX, hoY, hoZ,
    fun s hs hp => gN_take_pos _ _ _ _ lenX (hX.2.2 s (by omega) hp), fun s hs hp => gN_take_pos _ _ _ _ lenY (hY3 s (by omega) hp), fun s hs hp => hZ.2.2 s (by omega) hp⟩
end Go.Proofs.YtakoidkeaccgeaaDoor
