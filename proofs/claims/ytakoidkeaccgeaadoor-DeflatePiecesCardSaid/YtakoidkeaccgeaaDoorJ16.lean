/- block: dynamicCoder. -/
import Derived.Test.YtakoidkeaccgeaaDoorJ12
import Derived.Test.YtakoidkeaccgeaaDoorJ15
import Derived.Test.YtakoidkeaccgeaaDoorJ6
namespace Go.Proofs.YtakoidkeaccgeaaDoor
open Go.RowKit Go.Shelf Go.Sort

/-- The table of the teller's order lies where it lay. -/
def OrdM (w : World) : Prop := ∀ i, i < 19 → w.cell? ⟨0, i, none⟩ = some (.int .i64 (ordN i : Int))
theorem OrdM.chg {w w' : World} {T : Nat → Prop} (h : OrdM w) (hc : Chg T w w') (hT : ¬ T 0) : OrdM w' := fun i hi => hc.cell (h i hi) hT
theorem OrdM.lt {w : World} (h : OrdM w) : 0 < w.heap.size := World.block_lt_of_cell? w _ (h 0 (by omega))
/-- The cells of a coder. -/
def cdC (p0 p1 p2 vt : Value) (a b c : Nat) : List Value := [p0, p1, p2, vt, .int .i64 (a : Int), .int .i64 (b : Int), .int .i64 (c : Int)]
def ptr0 (b : Nat) : Value := .pointer (some ⟨b, 0, none⟩)
theorem Row.form2 {w : World} {S : Nat → Prop} {e : TypeId} {size n : Nat} {v : Value} {xs : List Value} (h : Row w S e size v n xs) (hn : 0 < n) : ∃ g off c, v = .slice (some ⟨g, off, none⟩) n c ∧ S g ∧ g < w.heap.size ∧ n ≤ c ∧ c ≤ maxLen := by
  rcases h.2 with ⟨rfl, rfl⟩ | ⟨g, off, cap, cur, rfl, hS, hg, hn2, hc, r⟩
  · omega
  · exact ⟨g, off, cap, rfl, hS, (Array.getElem?_eq_some_iff.1 hg).1, hn2, hc⟩
theorem Row.pre {w : World} {S : Nat → Prop} {e : TypeId} {size n g off c : Nat} {xs : List Value} (h : Row w S e size (.slice (some ⟨g, off, none⟩) n c) n xs) (j : Nat) (hj : j ≤ n) :
    Row w S e size (.slice (some ⟨g, off, none⟩) j c) j (xs.take (j * size)) := by
  rcases h.2 with ⟨h1, _⟩ | ⟨g', off', cap, cur, he, hS, hg, hn, hc, hs, ht⟩
  · cases h1
  · injection he with e1 e2 e3
    injection e1 with e1
    injection e1 with e1 e4
    subst e1 e4 e3
    have m1 : j * size ≤ n * size := Nat.mul_le_mul_right _ hj
    refine ⟨by rw [List.length_take, h.1]; omega, .inr ⟨g, off, c, cur, rfl, hS, hg, by omega, hc, hs, ?_⟩⟩
    rw [← ht, List.take_take, Nat.min_eq_left m1]
theorem xcs_at : ∀ (l : List (Nat × Nat × Nat)) (i : Nat), i < l.length → (xcs l)[i * 3]? = some (.int .i64 ((gX l i).1 : Int)) ∧ (xcs l)[i * 3 + 1]? = some (.int .i64 ((gX l i).2.1 : Int)) ∧ (xcs l)[i * 3 + 2]? = some (.int .u64 ((gX l i).2.2 : Int))
  | [], i, h => by simp at h
  | x :: l, 0, _ => ⟨rfl, rfl, rfl⟩
  | x :: l, i + 1, h => by
    have ih := xcs_at l i (by simpa using h)
    have e : xcs (x :: l) = [.int .i64 (x.1 : Int), .int .i64 (x.2.1 : Int), .int .u64 (x.2.2 : Int)] ++ xcs l := rfl
    have e2 : gX (x :: l) (i + 1) = gX l i := rfl
    rw [e, e2, show (i + 1) * 3 = 3 + i * 3 by omega]
    refine ⟨?_, ?_, ?_⟩
    · rw [List.getElem?_append_right (by simp)]
      simpa using ih.1
    · rw [List.getElem?_append_right (by simp; omega)]
      simpa [show 3 + i * 3 + 1 - 3 = i * 3 + 1 by omega] using ih.2.1
    · rw [List.getElem?_append_right (by simp; omega)]
      simpa [show 3 + i * 3 + 2 - 3 = i * 3 + 2 by omega] using ih.2.2
theorem nis_take (l : List Nat) (n : Nat) : (nis l).take n = nis (l.take n) := by simp [nis, List.map_take]
set_option maxHeartbeats 3200000 in
set_option maxRecDepth 100000 in
theorem dynamicCoder_calls (S : Nat → Prop) (v : Value) (l : List Tok) (w : World) (hr : Row w S 27 3 v l.length (tks l)) (hl : ∀ t ∈ l, t.ok) (hll : l.length ≤ 65535) (hord : OrdM w) :
    Calls Tryd.prog 27 #[v] w fun e w' => ∃ kb cs cd ct vt, e = .returned (ptr0 kb) ∧ w.heap.size ≤ kb ∧ Blk w' kb (cdC (ptr0 cs) (ptr0 cd) (ptr0 ct) vt (dynA l) (dynB l) (dynC l)) 81 ∧
      CodeM w' (fun i => w.heap.size ≤ i) cs (dynXs l) ∧ CodeM w' (fun i => w.heap.size ≤ i) cd (dynYs l) ∧ CodeM w' (fun i => w.heap.size ≤ i) ct (dynZ l) ∧
      Row w' (fun i => w.heap.size ≤ i) 72 3 vt (dynT l).length (xcs (dynT l)) ∧ Chg (fun _ => False) w w' := by
  have D := Lib.hid (dyn_ok l)
  have HCT := Lib.hid (counts_calls S v l w hr hl hll)
  have HCK := Lib.hid (cntK_ok l l.length)
  have HORD := Lib.hid hord
  have hor := hord.lt
  clear hr hl hord
  go_enter Tryd.func27, Tryd.ntmps27
  go_wp2_with fail
  refine HCT.out.mono ?_
  rintro e w1 ⟨v1, v2, rfl, ho1, ho2, hc1⟩
  have hz1 := hc1.size
  have hr1 := Row.of_own (S := fun i => w.heap.size ≤ i) ho1 (fun k hk => own_base ho1 k hk)
  have hr2 := Row.of_own (S := fun i => w.heap.size ≤ i) ho2 (fun k hk => own_base ho2 k hk)
  have e286 := HCK.out.1
  have e30 := HCK.out.2.1
  rw [← e286] at hr1
  rw [← e30] at hr2
  have HST := Lib.hid (strict_calls _ v1 (cntK l l.length).1 15 w1 hr1 (by omega) (by omega) (fun n hn => by have := mem_le _ _ HCK.out.2.2.1 n hn; omega) (by omega) (by omega) D.out.hoX)
  have HR2 := Lib.hid hr2
  have HC1 := Lib.hid hc1
  clear ho1 ho2 hr1 hr2 hc1 HCT e286 e30
  go_wp2_with fail
  refine HST.out.mono ?_
  rintro e w2 ⟨vx, rfl, hox, hc2⟩
  have hz2 := hc2.size
  have hrx : Row w2 (fun i => w.heap.size ≤ i) 3 1 vx (dynX l).length (nis (dynX l)) := by
    have := Row.of_own (S := fun i => w.heap.size ≤ i) hox (fun k hk => by have := own_base hox k hk; omega)
    rw [D.out.lenX]
    rw [HCK.out.1] at this
    exact this
  have HLN := Lib.hid (lengths_calls _ v2 (cntK l l.length).2 15 w2 (HR2.out.chg hc2 (fun _ _ _ h => h)) (by rw [HCK.out.2.1]; omega) (fun n hn => by have := mem_le _ _ HCK.out.2.2.2 n hn; omega) (by omega) (by omega) D.out.hoY)
  have HRX := Lib.hid hrx
  have HC2 := Lib.hid (HC1.out.trans hc2 (fun _ h => h.elim))
  clear hox hc2 hrx HR2 HC1 HST
  go_wp2_with fail
  refine HLN.out.mono ?_
  rintro e w3 ⟨vy, rfl, hoy, hc3⟩
  have hz3 := hc3.size
  have hry : Row w3 (fun i => w.heap.size ≤ i) 3 1 vy (dynY l).length (nis (dynY l)) := by
    have := Row.of_own (S := fun i => w.heap.size ≤ i) hoy (fun k hk => by have := own_base hoy k hk; omega)
    rw [D.out.lenY]
    rw [HCK.out.2.1] at this
    exact this
  have HRX3 := Lib.hid (HRX.out.chg hc3 (fun _ _ _ h => h))
  have HRY3 := Lib.hid hry
  have HC3 := Lib.hid (HC2.out.trans hc3 (fun _ h => h.elim))
  clear hoy hc3 hry HRX HC2 HLN
  go_wp2_with fail
  refine (upto_calls _ vx (dynX l) 257 w3 HRX3.out (by omega)).mono ?_
  rintro e w' ⟨rfl, hw⟩
  obtain rfl : w3 = w' := hw.symm
  go_wp2_with fail
  refine (upto_calls _ vy (dynY l) 1 w3 HRY3.out (by omega)).mono ?_
  rintro e w' ⟨rfl, hw⟩
  obtain rfl : w3 = w' := hw.symm
  rw [show uptoN (dynX l) 257 (dynX l).length = dynA l by rw [D.out.lenX]; rfl, show uptoN (dynY l) 1 (dynY l).length = dynB l by rw [D.out.lenY]; rfl]
  obtain ⟨gx, ox, kx, rfl, hgx, hgxl, hkx, hkxm⟩ := HRX3.out.form2 (by rw [D.out.lenX]; omega)
  obtain ⟨gy, oy, ky, rfl, hgy, hgyl, hky, hkym⟩ := HRY3.out.form2 (by rw [D.out.lenY]; omega)
  have hpx := HRX3.out.pre (dynA l) (by rw [D.out.lenX]; exact D.out.a2)
  have hpy := HRY3.out.pre (dynB l) (by rw [D.out.lenY]; exact D.out.b2)
  rw [Nat.mul_one, nis_take, show (dynX l).take (dynA l) = dynXs l from rfl] at hpx
  rw [Nat.mul_one, nis_take, show (dynY l).take (dynB l) = dynYs l from rfl] at hpy
  have a1 := D.out.a1
  have a2 := D.out.a2
  have b1 := D.out.b1
  have b2 := D.out.b2
  have exs := D.out.lenXs
  have eys := D.out.lenYs
  have ax : (dynA l : Int) ≤ (kx : Int) := by have := D.out.lenX; omega
  have ay : (dynB l : Int) ≤ (ky : Int) := by have := D.out.lenY; omega
  rw [D.out.lenX] at hkx
  rw [D.out.lenY] at hky
  have HPX := Lib.hid hpx
  have HPY := Lib.hid hpy
  have EXS := Lib.hid exs
  have EYS := Lib.hid eys
  clear hpx hpy HRX3 HRY3 exs eys
  have LX := Lib.hid D.out.lenX
  have LY := Lib.hid D.out.lenY
  rw [LX.out, LY.out]
  go_wp2_with fail
  go_quiet (fail)
  go_wp2_with fail
  have hb4 : Blk ((w3.alloc (.cells #[.pointer none, .pointer none, .pointer none, .slice none 0 0, .int .i64 (dynA l : Int), .int .i64 (dynB l : Int), .int .i64 0] 81)).drewN nq) w3.heap.size (cdC (.pointer none) (.pointer none) (.pointer none) (.slice none 0 0) (dynA l) (dynB l) 0) 81 := Blk.new w3 _ _
  have hc4 : Chg (fun _ => False) w3 ((w3.alloc (.cells #[.pointer none, .pointer none, .pointer none, .slice none 0 0, .int .i64 (dynA l : Int), .int .i64 (dynB l : Int), .int .i64 0] 81)).drewN nq) := ((Chg.refl _ _).alloc _).drewN nq
  generalize (w3.alloc (.cells #[.pointer none, .pointer none, .pointer none, .slice none 0 0, .int .i64 (dynA l : Int), .int .i64 (dynB l : Int), .int .i64 0] 81)).drewN nq = w4 at *
  have hkb4 := hb4.lt
  generalize hkb : w3.heap.size = kb at *
  have hkb3 : w.heap.size ≤ kb := by omega
  have hrx4 : Row w4 (fun i => w.heap.size ≤ i ∧ i < kb) 3 1 (.slice (some ⟨gx, ox, none⟩) (dynA l) kx) (dynXs l).length (nis (dynXs l)) := by
    rw [EXS.out]
    exact (HPX.out.tight.mono (fun i hi => ⟨hi.1, hkb ▸ hi.2⟩)).chg hc4 (fun _ _ _ h => h)
  have hry4 : Row w4 (fun i => w.heap.size ≤ i ∧ i < kb) 3 1 (.slice (some ⟨gy, oy, none⟩) (dynB l) ky) (dynYs l).length (nis (dynYs l)) := by
    rw [EYS.out]
    exact (HPY.out.tight.mono (fun i hi => ⟨hi.1, hkb ▸ hi.2⟩)).chg hc4 (fun _ _ _ h => h)
  have HRX4 := Lib.hid hrx4
  have HRY4 := Lib.hid hry4
  have HB4 := Lib.hid hb4
  have HC4 := Lib.hid (HC3.out.trans hc4 (fun _ h => h.elim))
  clear hrx4 hry4 hb4 hc4 hkb HC3 HPX HPY hgx hgxl hgy hgyl hz1 hz2 hz3
  refine (new_calls _ _ (dynXs l) false w4 HRX4.out D.out.xs15 (by rw [EXS.out]; omega)).mono ?_
  rintro e w5 ⟨hc5, h5 | h5⟩
  rotate_left
  · exact absurd D.out.errX h5.1
  obtain ⟨_, cs, rfl, hM5⟩ := h5
  have hz5 := hc5.size
  have hb5 := HB4.out.chg hc5 (fun h => h)
  have k0 : w5.cell? ⟨kb, 0, none⟩ = some (.pointer none) := hb5.cell 0
  have f0 := hb5.frozen 0
  have hx5 : Chg (fun i => i = kb) w5 (w5.setCell ⟨kb, 0, none⟩ (.pointer (some ⟨cs, 0, none⟩))) := (Chg.refl (fun i => i = kb) w5).setCell (p := ⟨kb, 0, none⟩) (Or.inl rfl) _
  have HB6 : Hid (Blk (w5.setCell ⟨kb, 0, none⟩ (.pointer (some ⟨cs, 0, none⟩))) kb (cdC (ptr0 cs) (.pointer none) (.pointer none) (.slice none 0 0) (dynA l) (dynB l) 0) 81) := hb5.set 0 _
  have HM6 := Lib.hid (hM5.tight.chg hx5 (fun i hi _ he => by omega))
  have HRX6 := Lib.hid ((HRX4.out.chg hc5 (fun _ _ _ h => h)).chg hx5 (fun i hi _ he => by omega))
  have HRY6 := Lib.hid ((HRY4.out.chg hc5 (fun _ _ _ h => h)).chg hx5 (fun i hi _ he => by omega))
  have HC6 := Lib.hid ((HC4.out.trans hc5 (fun _ h => h.elim)).trans hx5 (fun i hi => Or.inr (by omega)))
  have hs6 := hx5.size
  clear hb5 hx5 hM5 hc5 HRX4 HRY4 HC4 HB4
  go_wp2_with fail
  clear k0 f0
  generalize w5.setCell ⟨kb, 0, none⟩ (.pointer (some ⟨cs, 0, none⟩)) = w6 at *
  refine (new_calls _ _ (dynYs l) true w6 HRY6.out D.out.ys15 (by rw [EYS.out]; omega)).mono ?_
  rintro e w7 ⟨hc7, h7 | h7⟩
  rotate_left
  · exact absurd D.out.errY h7.1
  obtain ⟨_, cd, rfl, hM7⟩ := h7
  have hz7 := hc7.size
  have hb7 := HB6.out.chg hc7 (fun h => h)
  have k1 : w7.cell? ⟨kb, 1, none⟩ = some (.pointer none) := hb7.cell 1
  have f1 := hb7.frozen 1
  have hx7 : Chg (fun i => i = kb) w7 (w7.setCell ⟨kb, 1, none⟩ (.pointer (some ⟨cd, 0, none⟩))) := (Chg.refl (fun i => i = kb) w7).setCell (p := ⟨kb, 1, none⟩) (Or.inl rfl) _
  have HB8 : Hid (Blk (w7.setCell ⟨kb, 1, none⟩ (.pointer (some ⟨cd, 0, none⟩))) kb (cdC (ptr0 cs) (ptr0 cd) (.pointer none) (.slice none 0 0) (dynA l) (dynB l) 0) 81) := hb7.set 1 _
  have HD8 := Lib.hid (hM7.tight.chg hx7 (fun i hi _ he => by omega))
  have HM8 := Lib.hid ((HM6.out.chg hc7 (fun _ _ _ h => h)).chg hx7 (fun i hi _ he => by omega))
  have HRX8 := Lib.hid ((HRX6.out.chg hc7 (fun _ _ _ h => h)).chg hx7 (fun i hi _ he => by omega))
  have HRY8 := Lib.hid ((HRY6.out.chg hc7 (fun _ _ _ h => h)).chg hx7 (fun i hi _ he => by omega))
  have HC8 := Lib.hid ((HC6.out.trans hc7 (fun _ h => h.elim)).trans hx7 (fun i hi => Or.inr (by omega)))
  have hs8 := hx7.size
  clear hb7 hx7 hM7 hc7 HRX6 HRY6 HC6 HB6 HM6
  go_wp2_with fail
  clear k1 f1
  have hw8 : (w7.setCell ⟨kb, 1, none⟩ (.pointer (some ⟨cd, 0, none⟩))).heap.size = w7.heap.size := by simp
  generalize w7.setCell ⟨kb, 1, none⟩ (.pointer (some ⟨cd, 0, none⟩)) = w8 at *
  rw [← hw8]
  have hrr : Row (w8.alloc (.cells #[.slice (some ⟨gx, ox, none⟩) (dynA l) kx, .slice (some ⟨gy, oy, none⟩) (dynB l) ky] 22)) (fun _ => True) 22 1 (.slice (some ⟨w8.heap.size, 0, none⟩) 2 2) 2 [.slice (some ⟨gx, ox, none⟩) (dynA l) kx, .slice (some ⟨gy, oy, none⟩) (dynB l) ky] := Row.lit w8 _ _ 2 (by unfold maxLen; omega) rfl
  have hal8 : Chg (fun _ => False) w8 (w8.alloc (.cells #[.slice (some ⟨gx, ox, none⟩) (dynA l) kx, .slice (some ⟨gy, oy, none⟩) (dynB l) ky] 22)) := (Chg.refl _ _).alloc _
  have hal8s := hal8.size
  generalize w8.alloc (.cells #[.slice (some ⟨gx, ox, none⟩) (dynA l) kx, .slice (some ⟨gy, oy, none⟩) (dynB l) ky] 22) = w9 at *
  (with_reducible refine (concat2_calls (fun i => w.heap.size ≤ i ∧ i < kb) _ _ _ (dynXs l) (dynYs l) w9 hrr (HRX8.out.chg hal8 (fun _ _ _ h => h)) (HRY8.out.chg hal8 (fun _ _ _ h => h)) (by rw [EXS.out]; omega) (by rw [EYS.out]; omega)).mono ?_)
  rintro e wa ⟨vc, rfl, hoc, hca⟩
  have hza := hca.size
  have hrc : Row wa (fun i => w.heap.size ≤ i) 3 1 vc (dynXs l ++ dynYs l).length (nis (dynXs l ++ dynYs l)) := by
    rw [List.length_append]
    exact Row.of_own hoc (fun i hi => by have := own_base hoc i hi; omega)
  have HRC := Lib.hid hrc
  have hcA := hal8.trans hca (fun _ h => h.elim)
  have HBa := Lib.hid (HB8.out.chg hcA (fun h => h))
  have HDa := Lib.hid (HD8.out.chg hcA (fun _ _ _ h => h))
  have HMa := Lib.hid (HM8.out.chg hcA (fun _ _ _ h => h))
  have HCa := Lib.hid (HC8.out.trans hcA (fun _ h => h.elim))
  clear hrr hal8 hca hcA hoc hrc HRX8 HRY8 HB8 HD8 HM8 HC8
  go_wp2_with fail
  (with_reducible refine (pack_calls _ vc (dynXs l ++ dynYs l) wa HRC.out (fun n hn => (List.mem_append.1 hn).elim (D.out.xs15 n) (D.out.ys15 n)) (by rw [List.length_append, EXS.out, EYS.out]; omega)).mono ?_)
  rintro e wb ⟨vt, rfl, hot, hcb⟩
  have hzb := hcb.size
  rw [show packN (dynXs l ++ dynYs l) = dynT l from rfl] at hot
  have hbb := HBa.out.chg hcb (fun h => h)
  have k3 : wb.cell? ⟨kb, 3, none⟩ = some (.slice none 0 0) := hbb.cell 3
  have f3 := hbb.frozen 3
  have hrt := Row.of_own (S := fun i => w.heap.size ≤ i ∧ i ≠ kb) hot (fun i hi => by have := own_base hot i hi; omega)
  obtain ⟨gt, ot, kt, rfl, hgt, hgtl, hkt, hktm⟩ := hrt.form2 (by have := D.out.posT; omega)
  have hxb : Chg (fun i => i = kb) wb (wb.setCell ⟨kb, 3, none⟩ (.slice (some ⟨gt, ot, none⟩) (dynT l).length kt)) := (Chg.refl (fun i => i = kb) wb).setCell (p := ⟨kb, 3, none⟩) (Or.inl rfl) _
  have HBc : Hid (Blk (wb.setCell ⟨kb, 3, none⟩ (.slice (some ⟨gt, ot, none⟩) (dynT l).length kt)) kb (cdC (ptr0 cs) (ptr0 cd) (.pointer none) (.slice (some ⟨gt, ot, none⟩) (dynT l).length kt) (dynA l) (dynB l) 0) 81) := hbb.set 3 _
  have HDc := Lib.hid ((HDa.out.chg hcb (fun _ _ _ h => h)).chg hxb (fun i hi _ he => by omega))
  have HMc := Lib.hid ((HMa.out.chg hcb (fun _ _ _ h => h)).chg hxb (fun i hi _ he => by omega))
  have HTc := Lib.hid (hrt.chg hxb (fun i hi _ he => hi.2 he))
  have HCc := Lib.hid ((HCa.out.trans hcb (fun _ h => h.elim)).trans hxb (fun i hi => Or.inr (by omega)))
  have hsc := hxb.size
  clear hbb hxb hot hcb hrt HBa HDa HMa HCa HRC hgt hgtl
  have hmk : ∀ W : World, (Instr.makeSlice 22 (.int .i64 19) (.int .i64 19)).run Tryd.prog W = .ok (.slice (some ⟨W.heap.size, 0, none⟩) 19 19) (W.alloc (.cells (zerosA 19) 3)) := fun W => make_zeros 19 (by omega) W
  have kn3 : ((wb.setCell ⟨kb, 3, none⟩ (.slice (some ⟨gt, ot, none⟩) (dynT l).length kt)).alloc (.cells (zerosA 19) 3)).cell? ⟨kb, 3, none⟩ = some (.slice (some ⟨gt, ot, none⟩) (dynT l).length kt) := (HBc.out.alloc (.cells (zerosA 19) 3)).cell 3
  go_wp2_with fail
  clear k3 f3 kn3 hmk
  have hwsz : (wb.setCell ⟨kb, 3, none⟩ (.slice (some ⟨gt, ot, none⟩) (dynT l).length kt)).heap.size = wb.heap.size := by simp
  have hoz : ((wb.setCell ⟨kb, 3, none⟩ (.slice (some ⟨gt, ot, none⟩) (dynT l).length kt)).alloc (.cells (zerosA 19) 3)).ownsRow wb.heap.size 3 1 (.slice (some ⟨wb.heap.size, 0, none⟩) 19 19) 19 (nis (zs 19)) := by
    have := own_zeros (wb.setCell ⟨kb, 3, none⟩ (.slice (some ⟨gt, ot, none⟩) (dynT l).length kt)) wb.heap.size 19 (by omega) (by rw [hwsz]; exact Nat.le_refl _)
    rw [hwsz] at this
    exact this
  have hxz : Chg (fun _ => False) (wb.setCell ⟨kb, 3, none⟩ (.slice (some ⟨gt, ot, none⟩) (dynT l).length kt)) ((wb.setCell ⟨kb, 3, none⟩ (.slice (some ⟨gt, ot, none⟩) (dynT l).length kt)).alloc (.cells (zerosA 19) 3)) := (Chg.refl _ _).alloc _
  have hxzs : ((wb.setCell ⟨kb, 3, none⟩ (.slice (some ⟨gt, ot, none⟩) (dynT l).length kt)).alloc (.cells (zerosA 19) 3)).heap.size = wb.heap.size + 1 := by simp
  have HBd := Lib.hid (HBc.out.chg hxz (fun h => h))
  have HDd := Lib.hid ((HDc.out.mono (T := fun i => kb < i ∧ i < wb.heap.size) (fun i hi => by omega)).chg hxz (fun _ _ _ h => h))
  have HMd := Lib.hid ((HMc.out.mono (T := fun i => kb < i ∧ i < wb.heap.size) (fun i hi => by omega)).chg hxz (fun _ _ _ h => h))
  have HTd := Lib.hid (HTc.out.tight.chg hxz (fun _ _ _ h => h))
  have HCd := Lib.hid (HCc.out.trans hxz (fun _ h => h.elim))
  clear hxz HBc HDc HMc HTc HCc
  have HOZ := Lib.hid hoz
  have HWS := Lib.hid hwsz
  clear hoz hwsz
  generalize (wb.setCell ⟨kb, 3, none⟩ (.slice (some ⟨gt, ot, none⟩) (dynT l).length kt)).alloc (.cells (zerosA 19) 3) = wd at *
  have hkbz : kb < wb.heap.size := by omega
  have hwz : w.heap.size ≤ wb.heap.size := by omega
  clear hs8 hs6 hal8s hzb hza hz5 hz7 hkb4
  go_loopw [73] (fun i W => ∃ k : Nat, k ≤ (dynT l).length ∧ i = .int .i64 (k : Int) ∧ Hid (W.ownsRow wb.heap.size 3 1 (.slice (some ⟨wb.heap.size, 0, none⟩) 19 19) 19 (nis (oftK (dynT l) k))) ∧ Hid (Chg (fun i => i = wb.heap.size) wd W)) (fun i _ => (dynT l).length - (intOf i).toNat)
  case atStart => exact ⟨0, Nat.zero_le _, rfl, HOZ.out, Chg.refl _ _⟩
  case round =>
    obtain ⟨k, hk, rfl, HI, HC⟩ := hrel
    by_cases hkl : k < (dynT l).length
    · have hrow := HTd.out.chg HC.out (fun i hi _ he => by have h2 := hi.2; rw [HWS.out] at h2; omega)
      have htk := xcs_at (dynT l) k hkl
      have hcell := hrow.cell (k * 3) (by omega)
      have hcell1 := hrow.cell (k * 3 + 1) (by omega)
      have hcell2 := hrow.cell (k * 3 + 2) (by omega)
      rw [htk.1] at hcell
      rw [htk.2.1, ← Nat.add_assoc] at hcell1
      rw [htk.2.2, ← Nat.add_assoc] at hcell2
      have hok := D.out.okT (gX (dynT l) k) (gX_mem _ k hkl)
      have hst : oftK (dynT l) (k + 1) = incr (oftK (dynT l) k) (gX (dynT l) k).1 := rfl
      have HST := Lib.hid hst
      have hof := oftK_length (dynT l) k
      have HOL := Lib.hid hof
      have hle := oftK_le (dynT l) k (gX (dynT l) k).1
      have hkl2 : (k : Int) < ((dynT l).length : Int) := by omega
      have hlt := D.out.lenT
      generalize hgx : gX (dynT l) k = x at *
      obtain ⟨x1, x2, x3⟩ := x
      unfold XOk at hok
      dsimp only at hok hcell hcell1 hcell2 HST hle
      have hx18 : x1 ≤ 18 := by omega
      have hx19 : (x1 : Int) < 19 := by omega
      have hbl := own_blk_lt HI.out wb.heap.size rfl
      generalize hofk : oftK (dynT l) k = q at *
      have hcx := (HI.out.cellAt x1 (by omega)).trans (nis_at q x1 (by omega))
      have hfx := HI.out.frozenAt x1
      clear hrow htk hst hof hok hgx hofk
      go_wp2
      go_roundw
      case rel =>
        refine ⟨k + 1, by omega, by go_num, ?_, ?_⟩
        · show World.ownsRow _ _ _ _ _ _ _
          rw [HST.out]
          have h4 := (HI.out.stored x1 (.int .i64 ((gN q x1 + 1 : Nat) : Int))).1
          rw [nis_set, show ((gN q x1 + 1 : Nat) : Int) = (gN q x1 : Int) + 1 by omega] at h4
          exact ((Chg.refl (fun _ => False) _).alloc _).own h4 (fun _ _ h => h)
        · show Chg _ _ _
          exact HC.out.trans (((Chg.refl (fun k => k = wb.heap.size) wr).setCell (p := ⟨wb.heap.size, x1, none⟩) (Or.inl rfl) _).alloc _) (fun i h => Or.inl h)
      case measure => simp [intOf]; omega
    · obtain rfl : k = (dynT l).length := by omega
      have hkl2 : ¬ ((dynT l).length : Int) < ((dynT l).length : Int) := by omega
      go_wp2_with fail
      have hszr := HC.out.size
      have hcr : ∀ i, kb < i ∧ i < wb.heap.size → i < wd.heap.size → ¬ i = wb.heap.size := fun i hi _ he => by omega
      have hrow := Row.of_own (S := fun i => w.heap.size ≤ i) HI.out (fun i hi => by have := own_base HI.out i hi; omega)
      rw [show (19 : Nat) = (oftK (dynT l) (dynT l).length).length by rw [oftK_length]] at hrow
      have HSZ := Lib.hid (strict_calls _ _ (oftK (dynT l) (dynT l).length) 7 wr hrow (by rw [oftK_length]; omega) (by rw [oftK_length]; omega) (fun n hn => by have := mem_le _ _ (oftK_le (dynT l) (dynT l).length) n hn; have := D.out.lenT; omega) (by omega) (by omega) D.out.hoZ)
      have HBr := Lib.hid (HBd.out.chg HC.out (by omega))
      have HDr := Lib.hid (HDd.out.chg HC.out hcr)
      have HMr := Lib.hid (HMd.out.chg HC.out hcr)
      have HTr := Lib.hid (HTd.out.chg HC.out (fun i hi _ he => by have h2 := hi.2; rw [HWS.out] at h2; omega))
      have HCr := Lib.hid (HCd.out.trans HC.out (fun i hi => Or.inr (by omega)))
      clear hrow hcr HI HC HBd HDd HMd HTd HCd HOZ
      rw [oftK_length] at HSZ
      refine HSZ.out.mono ?_
      rintro e wf ⟨vz, rfl, hoz, hcf⟩
      have hzf := hcf.size
      rw [show strictN (oftK (dynT l) (dynT l).length) 7 = dynZ l from rfl] at hoz
      have hrz := Row.of_own (S := fun i => w.heap.size ≤ i ∧ i ≠ kb) hoz (fun i hi => by have := own_base hoz i hi; omega)
      obtain ⟨gz, oz, kz, rfl, hgz, hgzl, hkz, hkzm⟩ := hrz.form2 (by omega)
      rw [← D.out.lenZ] at hrz
      have HRZ := Lib.hid hrz
      have HNW := Lib.hid (new_calls _ _ (dynZ l) false wf hrz (fun n hn => by have := D.out.z7 n hn; omega) (by rw [D.out.lenZ]; omega))
      have HBf := Lib.hid (HBr.out.chg hcf (fun h => h))
      have HDf := Lib.hid (HDr.out.chg hcf (fun _ _ _ h => h))
      have HMf := Lib.hid (HMr.out.chg hcf (fun _ _ _ h => h))
      have HTf := Lib.hid (HTr.out.chg hcf (fun _ _ _ h => h))
      have HCf := Lib.hid (HCr.out.trans hcf (fun _ h => h.elim))
      clear hoz hcf hrz HBr HDr HMr HTr HCr HSZ hgz hgzl
      rw [D.out.lenZ] at HNW
      go_wp2_with fail
      refine HNW.out.mono ?_
      rintro e wg ⟨hcg, hg | hg⟩
      rotate_left
      · exact absurd D.out.errZ hg.1
      obtain ⟨_, ct, rfl, hMg⟩ := hg
      have hzg := hcg.size
      have hbg := HBf.out.chg hcg (fun h => h)
      have k2 : wg.cell? ⟨kb, 2, none⟩ = some (.pointer none) := hbg.cell 2
      have f2 := hbg.frozen 2
      have k6 : wg.cell? ⟨kb, 6, none⟩ = some (.int .i64 0) := hbg.cell 6
      have f6 := hbg.frozen 6
      go_wp2_with fail
      have hxg : Chg (fun i => i = kb) wg ((wg.setCell ⟨kb, 2, none⟩ (.pointer (some ⟨ct, 0, none⟩))).setCell ⟨kb, 6, none⟩ (.int .i64 19)) := ((Chg.refl (fun i => i = kb) wg).setCell (p := ⟨kb, 2, none⟩) (Or.inl rfl) _).setCell (p := ⟨kb, 6, none⟩) (Or.inl rfl) _
      have HBh : Hid (Blk ((wg.setCell ⟨kb, 2, none⟩ (.pointer (some ⟨ct, 0, none⟩))).setCell ⟨kb, 6, none⟩ (.int .i64 19)) kb (cdC (ptr0 cs) (ptr0 cd) (ptr0 ct) (.slice (some ⟨gt, ot, none⟩) (dynT l).length kt) (dynA l) (dynB l) 19) 81) := (hbg.set 2 _).set 6 _
      have HDh := Lib.hid ((HDf.out.chg hcg (fun _ _ _ h => h)).chg hxg (fun i hi _ he => by omega))
      have HMh := Lib.hid ((HMf.out.chg hcg (fun _ _ _ h => h)).chg hxg (fun i hi _ he => by omega))
      have HZh := Lib.hid (hMg.chg hxg (fun i hi _ he => by omega))
      have HTh := Lib.hid ((HTf.out.chg hcg (fun _ _ _ h => h)).chg hxg (fun i hi _ he => hi.1.2 he))
      have HRh := Lib.hid ((HRZ.out.chg hcg (fun _ _ _ h => h)).chg hxg (fun i hi _ he => hi.2 he))
      have HCh := Lib.hid ((HCf.out.trans hcg (fun _ h => h.elim)).trans hxg (fun i hi => Or.inr (by omega)))
      clear hbg hxg hMg hcg k2 f2 k6 f6 HDf HMf HTf HRZ HCf HNW HBf
      generalize (wg.setCell ⟨kb, 2, none⟩ (.pointer (some ⟨ct, 0, none⟩))).setCell ⟨kb, 6, none⟩ (.int .i64 19) = wh at *
      go_loopg [] 19 (fun j wr => 4 ≤ j ∧ j ≤ 19 ∧ Hid (dynC l = cutN (dynZ l) j) ∧ Hid (Blk wr kb (cdC (ptr0 cs) (ptr0 cd) (ptr0 ct) (.slice (some ⟨gt, ot, none⟩) (dynT l).length kt) (dynA l) (dynB l) j) 81) ∧ Hid (Chg (fun i => i = kb) wh wr))
      case atStart => exact ⟨by omega, by omega, rfl, HBh.out, Chg.refl _ _⟩
      case round =>
        rename_i wold
        clear HBh
        obtain ⟨hj4, hj19, HJ, HB, HC⟩ := hrel
        obtain ⟨j, rfl⟩ : ∃ j, gk = j + 1 := ⟨gk - 1, by omega⟩
        have b6 : wr.cell? ⟨kb, 6, none⟩ = some (.int .i64 ((j + 1 : Nat) : Int)) := HB.out.cell 6
        have bf6 := HB.out.frozen 6
        have hon := ordN_lt j (by omega)
        have hoc : wr.cell? ⟨0, j, none⟩ = some (.int .i64 (ordN j : Int)) := (HORD.out.chg HCh.out (fun h => h)).chg HC.out (show ¬ 0 = kb by omega) j (by omega)
        have hzc := (HRh.out.chg HC.out (fun i hi _ he => hi.2 he)).cell (ordN j) (by rw [D.out.lenZ]; omega)
        rw [nis_at _ _ (by rw [D.out.lenZ]; exact hon)] at hzc
        have hst : cutN (dynZ l) (j + 1) = if 4 < j + 1 ∧ gN (dynZ l) (ordN j) = 0 then cutN (dynZ l) j else j + 1 := rfl
        have HST := Lib.hid hst
        clear hst
        by_cases hj : 4 < j + 1
        · have hjd : decide ((4 : Int) < (j : Int) + 1) = true := by simp; omega
          by_cases hz0 : gN (dynZ l) (ordN j) = 0
          · rw [hz0] at hzc
            go_wp2_with fail
            have HB2 : Hid (Blk (wr.setCell ⟨kb, 6, none⟩ (.int .i64 (j : Int))) kb (cdC (ptr0 cs) (ptr0 cd) (ptr0 ct) (.slice (some ⟨gt, ot, none⟩) (dynT l).length kt) (dynA l) (dynB l) j) 81) := HB.out.set 6 _
            go_roundg j
            case measure => omega
            case rel =>
              refine ⟨by omega, by omega, ?_, HB2, ?_⟩
              · show _ = _
                rw [HJ.out, HST.out, if_pos ⟨hj, hz0⟩]
              · show Chg _ _ _
                exact HC.out.trans ((Chg.refl (fun i => i = kb) wr).setCell (p := ⟨kb, 6, none⟩) (Or.inl rfl) _) (fun i h => Or.inl h)
          · have hzb : ((gN (dynZ l) (ordN j) : Int) == 0) = false := by simp; omega
            have HZ0 := Lib.hid hz0
            clear hz0
            go_wp2_with fail
            go_returns
            rw [HJ.out, HST.out, if_neg (fun h => HZ0.out h.2)]
            exact ⟨kb, cs, cd, ct, _, rfl, hkb3, HB.out, (HMh.out.chg HC.out (fun i hi _ he => by omega)).mono (fun i hi => by omega), (HDh.out.chg HC.out (fun i hi _ he => by omega)).mono (fun i hi => by omega), (HZh.out.chg HC.out (fun i hi _ he => by omega)).mono (fun i hi => by omega), (HTh.out.chg HC.out (fun i hi _ he => hi.1.2 he)).mono (fun i hi => hi.1.1), HCh.out.trans HC.out (fun i hi => Or.inr (by omega))⟩
        · have hjd : decide ((4 : Int) < (j : Int) + 1) = false := by simp; omega
          go_wp2_with fail
          go_returns
          rw [HJ.out, HST.out, if_neg (fun h => hj h.1)]
          exact ⟨kb, cs, cd, ct, _, rfl, hkb3, HB.out, (HMh.out.chg HC.out (fun i hi _ he => by omega)).mono (fun i hi => by omega), (HDh.out.chg HC.out (fun i hi _ he => by omega)).mono (fun i hi => by omega), (HZh.out.chg HC.out (fun i hi _ he => by omega)).mono (fun i hi => by omega), (HTh.out.chg HC.out (fun i hi _ he => hi.1.2 he)).mono (fun i hi => hi.1.1), HCh.out.trans HC.out (fun i hi => Or.inr (by omega))⟩
end Go.Proofs.YtakoidkeaccgeaaDoor

/- block: head. -/
namespace Go.Proofs.YtakoidkeaccgeaaDoor
open Go.RowKit Go.Shelf Go.Sort
attribute [local go_sem ↓] Go.wp_at_zero Go.wp_at_succ
variable {F : Nat → Option Value}

def zB (z : List Nat) : Nat → List Bool
  | 0 => []
  | k + 1 => zB z k ++ nb 3 (gN z (ordN k))
def tB (z : List Nat) (t : List (Nat × Nat × Nat)) : Nat → List Bool
  | 0 => []
  | k + 1 => tB z t k ++ (cword z (gX t k).1 ++ nb (gX t k).2.1 (gX t k).2.2)
/-- The bits of a Dynamic block's beginning. -/
def headB (a b c : Nat) (z : List Nat) (t : List (Nat × Nat × Nat)) : List Bool := nb 14 ((a - 257) + 32 * (b - 1) + 1024 * (c - 4)) ++ zB z c ++ tB z t t.length
theorem zB_length (z : List Nat) : ∀ k, (zB z k).length = 3 * k
  | 0 => rfl
  | k + 1 => by rw [zB, List.length_append, zB_length z k, nb_length]; omega
theorem tB_le (z : List Nat) (t : List (Nat × Nat × Nat)) (ht : ∀ x ∈ t, XOk x) : ∀ k, k ≤ t.length → (tB z t k).length ≤ 22 * k
  | 0, _ => by simp [tB]
  | k + 1, hk => by
    have h1 := tB_le z t ht k (by omega)
    have h2 := cword_le z (gX t k).1
    have h3 := ht _ (gX_mem t k (by omega))
    unfold XOk at h3
    rw [tB, List.length_append, List.length_append, nb_length]
    omega
theorem head_num (x y z : Nat) (hx : x < 32) (hy : y < 32) (hz : z < 16) :
    bits .or .u64 (bits .or .u64 (x : Int) ((y : Int) * 2 ^ 5)) ((z : Int) * 2 ^ 10) = ((x + 32 * y + 1024 * z : Nat) : Int) := by
  have e1 : (y : Int) * 2 ^ 5 = ((2 ^ 5 * y : Nat) : Int) := by omega
  have e2 : (z : Int) * 2 ^ 10 = ((2 ^ 10 * z : Nat) : Int) := by omega
  rw [e1, (bits_nat .u64 64 (by decide) wraps_u64 x _ (by omega) (by omega)).2]
  rw [Nat.or_comm, ← Nat.two_pow_add_eq_or_of_lt (by omega : x < 2 ^ 5) y]
  rw [e2, (bits_nat .u64 64 (by decide) wraps_u64 _ _ (by omega) (by omega)).2]
  rw [Nat.or_comm, ← Nat.two_pow_add_eq_or_of_lt (by omega : 2 ^ 5 * y + x < 2 ^ 10) z]
  congr 1; omega
theorem head_val (a bb c : Nat) (a1 : 257 ≤ a) (a2 : a ≤ 286) (b1 : 1 ≤ bb) (b2 : bb ≤ 30) (c1 : 4 ≤ c) (c2 : c ≤ 19) :
    bits .or .u64 (bits .or .u64 (IntKind.u64.wrap (IntKind.i64.wrap ((a : Int) - 257))) (IntKind.u64.wrap (IntKind.u64.wrap (IntKind.i64.wrap ((bb : Int) - 1)) * 32))) (IntKind.u64.wrap (IntKind.u64.wrap (IntKind.i64.wrap ((c : Int) - 4)) * 1024)) =
      (((a - 257) + 32 * (bb - 1) + 1024 * (c - 4) : Nat) : Int) := by
  have wa : IntKind.i64.wrap ((a : Int) - 257) = ((a - 257 : Nat) : Int) := by rw [IntWalk.i64_in _ (by omega)]; omega
  have wb : IntKind.i64.wrap ((bb : Int) - 1) = ((bb - 1 : Nat) : Int) := by rw [IntWalk.i64_in _ (by omega)]; omega
  have wc : IntKind.i64.wrap ((c : Int) - 4) = ((c - 4 : Nat) : Int) := by rw [IntWalk.i64_in _ (by omega)]; omega
  rw [wa, wb, wc, wraps_u64 ((a - 257 : Nat) : Int) (by omega) (by omega), wraps_u64 ((bb - 1 : Nat) : Int) (by omega) (by omega), wraps_u64 ((c - 4 : Nat) : Int) (by omega) (by omega), wraps_u64 _ (by omega) (by omega), wraps_u64 _ (by omega) (by omega)]
  have := head_num (a - 257) (bb - 1) (c - 4) (by omega) (by omega) (by omega)
  rw [show (2 : Int) ^ 5 = 32 from rfl, show (2 : Int) ^ 10 = 1024 from rfl] at this
  exact this
theorem lenOrd : Tryd.prog.arrayLen 92 = 19 := by kernel_rfl
theorem sizeOrd (W : World) : (sizeOf (Tryd.prog.elem 92)).run Tryd.prog W = .ok 1 W := by kernel_rfl
theorem undOrd : Tryd.prog.underlying 92 = some (.array (Tryd.prog.arrayLen 92) (Tryd.prog.elem 92)) := by kernel_rfl
theorem sliceOrd (c : Nat) (hc : c ≤ 19) (W : World) : (Instr.sliceAt 92 (.pointer (some ⟨0, 0, none⟩)) none (some (.int .i64 (c : Int))) none).run Tryd.prog W = .ok (.slice (some ⟨0, 0, none⟩) c 19) W := by
  rw [run_sliceAt_array_h W 92 _ undOrd .i64 c (by omega) (by rw [lenOrd]; omega), sizeOrd, lenOrd]
  simp [slicedAt, Addr.add]
set_option maxHeartbeats 3200000 in
set_option maxRecDepth 100000 in
theorem head_calls (kb ct b o : Nat) (S T : Nat → Prop) (p0 p1 vt : Value) (a bb c : Nat) (z : List Nat) (t : List (Nat × Nat × Nat)) (bs : List Bool) (w : World)
    (hk : Blk w kb (cdC p0 p1 (ptr0 ct) vt a bb c) 81) (hTk : T kb) (hct : CodeM w T ct z) (hr : Row w T 72 3 vt t.length (xcs t)) (hord : OrdM w)
    (hW : WB F w S b o bs) (hd : ∀ k, T k ∨ k = 0 → ¬ (S k ∨ k = b)) (hT : ∀ k, T k → k < w.heap.size)
    (a1 : 257 ≤ a) (a2 : a ≤ 286) (b1 : 1 ≤ bb) (b2 : bb ≤ 30) (c1 : 4 ≤ c) (c2 : c ≤ 19) (hz : z.length = 19) (hz7 : ∀ n ∈ z, n ≤ 7) (ht : ∀ x ∈ t, XOk x) (htl : t.length ≤ 316) (htp : 1 ≤ t.length) (hlen : bs.length ≤ 140737488355328) :
    Calls Tryd.prog 28 #[ptr0 kb, .pointer (some ⟨b, o, none⟩)] w fun e w' => e = .returned (.tuple #[]) ∧
      WB F w' (fun i => S i ∨ w.heap.size ≤ i) b o (bs ++ headB a bb c z t) ∧ Chg (fun i => S i ∨ i = b) w w' := by
  unfold ptr0
  have k4 : w.cell? ⟨kb, 4, none⟩ = some (.int .i64 (a : Int)) := hk.cell 4
  have k5 : w.cell? ⟨kb, 5, none⟩ = some (.int .i64 (bb : Int)) := hk.cell 5
  have k6 : w.cell? ⟨kb, 6, none⟩ = some (.int .i64 (c : Int)) := hk.cell 6
  have HV := Lib.hid (head_val a bb c a1 a2 b1 b2 c1 c2)
  have HK := Lib.hid hk
  have HCT := Lib.hid hct
  have HR := Lib.hid hr
  have HORD := Lib.hid hord
  have HW := Lib.hid hW
  have HD := Lib.hid hd
  have HT := Lib.hid hT
  have HZ := Lib.hid hz
  have HZ7 := Lib.hid hz7
  have HTT := Lib.hid ht
  clear hk hct hr hord hW hd hT hz hz7 ht
  have HWD : Hid (WB F w.drew S b o bs) := HW.out.drewN 1
  go_enter Tryd.func28, Tryd.ntmps28
  go_wp2_with fail
  go_region_held3 (fun w' => w'.cell? ⟨kb, 4, none⟩ = some (.int .i64 (a : Int)) ∧ w'.cell? ⟨kb, 5, none⟩ = some (.int .i64 (bb : Int)) ∧ w'.cell? ⟨kb, 6, none⟩ = some (.int .i64 (c : Int)))
    (first | (go_keep; done) | (have q := (HK.out.drewN 1).chg hc1 (fun h => HD.out kb (Or.inl hTk) h); exact ⟨q.cell 4, q.cell 5, q.cell 6⟩))
    ((go_at_call 22; rw [HV.out]; refine (writeA_calls b o S bs ((a - 257) + 32 * (bb - 1) + 1024 * (c - 4)) 14 _ HWD.out (by omega) (by omega) (by omega)).mono ?_; rintro e w1 ⟨rfl, hW1, hc1⟩))
  have HC1 : Hid (Chg (fun i => S i ∨ i = b) w w1) := ((Chg.refl _ w).drew).trans hc1 (fun i h => Or.inl h)
  have HW1 : Hid (WB F w1 (fun i => S i ∨ w.heap.size ≤ i) b o (bs ++ nb 14 ((a - 257) + 32 * (bb - 1) + 1024 * (c - 4)))) := hW1
  have hq : ∀ i, T i → i < w.heap.size → ¬ (S i ∨ i = b) := fun i hi _ => HD.out i (Or.inl hi)
  have hb1 := HK.out.chg HC1.out (hq kb hTk (HT.out kb hTk))
  have k2 : w1.cell? ⟨kb, 2, none⟩ = some (.pointer (some ⟨ct, 0, none⟩)) := hb1.cell 2
  have HM1 := Lib.hid (HCT.out.chg HC1.out hq)
  have HB1 := Lib.hid hb1
  have hz1 := HC1.out.size
  have hlen1 : (bs ++ nb 14 ((a - 257) + 32 * (bb - 1) + 1024 * (c - 4))).length ≤ 140737488355400 := by rw [List.length_append, nb_length]; omega
  generalize hbs1 : bs ++ nb 14 ((a - 257) + 32 * (bb - 1) + 1024 * (c - 4)) = bs1 at *
  have HBS1 := Lib.hid hbs1
  clear hbs1 hc1 hW1 k4 k5 k6 hb1 HV HWD
  go_wp2_with fail
  refine (codeLengths_calls ct T z w1 HM1.out (by rw [HZ.out]; omega)).mono ?_
  rintro e w2 ⟨vl, rfl, hol, hc2⟩
  have hz2 := hc2.size
  have hrl := Row.of_own (S := fun i => w1.heap.size ≤ i) hol (fun i hi => own_base hol i hi)
  rw [HZ.out] at hrl
  obtain ⟨gl, ol, kl, rfl, hgl, hgll, hkl, hklm⟩ := hrl.form2 (by omega)
  have HC2 := Lib.hid (HC1.out.trans hc2 (fun _ h => h.elim))
  have hb2 := HB1.out.chg hc2 (fun h => h)
  have k6 : w2.cell? ⟨kb, 6, none⟩ = some (.int .i64 (c : Int)) := hb2.cell 6
  have hsl := sliceOrd c c2
  go_wp2_with fail
  clear hsl
  have hbw := HW.out.lt
  have HKP : Hid (∀ W : World, Chg (fun i => (((S i ∨ w.heap.size ≤ i) ∧ i < w1.heap.size) ∨ w2.heap.size ≤ i) ∨ i = b) w2 W →
      Blk W kb (cdC p0 p1 (ptr0 ct) vt a bb c) 81 ∧ OrdM W ∧ CodeM W T ct z ∧ Row W T 72 3 vt t.length (xcs t) ∧ Row W (fun i => w1.heap.size ≤ i) 3 1 (.slice (some ⟨gl, ol, none⟩) 19 kl) 19 (nis z)) := by
    show ∀ _, _
    intro W hc
    have hT2 : ∀ i, (T i ∨ i = 0) → i < w.heap.size → ¬ ((((S i ∨ w.heap.size ≤ i) ∧ i < w1.heap.size) ∨ w2.heap.size ≤ i) ∨ i = b) := by
      intro i hi hl
      have h2 := HD.out i hi
      rintro ((⟨h3 | h3, _⟩ | h3) | h3)
      · exact h2 (Or.inl h3)
      · omega
      · omega
      · exact h2 (Or.inr h3)
    have hC02 := HC2.out
    have hT3 : ∀ i, T i → i < w2.heap.size → ¬ ((((S i ∨ w.heap.size ≤ i) ∧ i < w1.heap.size) ∨ w2.heap.size ≤ i) ∨ i = b) := fun i hi _ => hT2 i (Or.inl hi) (HT.out i hi)
    have hol := HORD.out.lt
    exact ⟨(HB1.out.chg hc2 (fun h => h)).chg hc (hT2 kb (Or.inl hTk) (HT.out kb hTk)), (HORD.out.chg HC2.out (fun h => HD.out _ (Or.inr rfl) h)).chg hc (hT2 _ (Or.inr rfl) hol),
      (HM1.out.chg hc2 (fun _ _ _ h => h)).chg hc hT3, (HR.out.chg HC2.out hq).chg hc hT3, hrl.tight.chg hc (fun i hi _ => by
        rintro ((⟨_, h3⟩ | h3) | h3)
        · omega
        · omega
        · omega) |>.mono (fun i hi => hi.1)⟩
  have HW2 : Hid (WB F w2 (fun i => ((S i ∨ w.heap.size ≤ i) ∧ i < w1.heap.size) ∨ w2.heap.size ≤ i) b o bs1) := (HW1.out.tight.chg hc2 (fun _ _ _ h => h) (fun h => h)).mono (fun i hi => Or.inl hi)
  have HC2x := Lib.hid hc2
  clear HB1 HM1 HW1 hol hrl HC1 hb2 k6 hgl hgll k2
  clear hc2
  go_loopw [44] (fun i W => ∃ k : Nat, k ≤ c ∧ i = .int .i64 (k : Int) ∧ Hid (WB F W (fun i => ((S i ∨ w.heap.size ≤ i) ∧ i < w1.heap.size) ∨ w2.heap.size ≤ i) b o (bs1 ++ zB z k)) ∧ Hid (Chg (fun i => (((S i ∨ w.heap.size ≤ i) ∧ i < w1.heap.size) ∨ w2.heap.size ≤ i) ∨ i = b) w2 W)) (fun i _ => c - (intOf i).toNat)
  case atStart => exact ⟨0, Nat.zero_le _, rfl, by show WB F _ _ _ _ _; simpa [zB] using HW2.out, Chg.refl _ _⟩
  case round =>
    clear HW2
    obtain ⟨k, hk, rfl, HX, HC⟩ := hrel
    have HQ := Lib.hid (HKP.out wr HC.out)
    have hzl := zB_length z k
    have hzr := HC.out.size
    by_cases hkc : k < c
    · have hkc2 : (k : Int) < (c : Int) := by omega
      have hon := ordN_lt k (by omega)
      have hoc : wr.cell? ⟨0, k, none⟩ = some (.int .i64 (ordN k : Int)) := HQ.out.2.1 k (by omega)
      have hon2 : (ordN k : Int) < 19 := by omega
      have hzc := HQ.out.2.2.2.2.cell (ordN k) (by omega)
      rw [nis_at _ _ (by rw [HZ.out]; exact hon)] at hzc
      have hz7 := HZ7.out _ (gN_mem z (ordN k) (by rw [HZ.out]; exact hon))
      have hst : zB z (k + 1) = zB z k ++ nb 3 (gN z (ordN k)) := rfl
      have HST := Lib.hid hst
      have hl1 : (bs1 ++ zB z k).length ≤ 281474976710656 := by rw [List.length_append]; omega
      clear hst hzl
      go_wp2_with fail
      refine (writeA_calls b o _ _ (gN z (ordN k)) 3 wr HX.out (by omega) (by omega) hl1).mono ?_
      rintro e w5 ⟨rfl, hW5, hc5⟩
      have HW5 := Lib.hid hW5
      have HC5 := Lib.hid hc5
      clear hW5 hc5
      go_wp2
      go_roundw
      case rel =>
        refine ⟨k + 1, by omega, by go_num, ?_, ?_⟩
        · show WB F _ _ _ _ _
          rw [HST.out, ← List.append_assoc]
          exact HW5.out.mono (fun i h => h.elim id (fun h => Or.inr (by omega)))
        · show Chg _ _ _
          exact HC.out.trans HC5.out (fun i h => Or.inl h)
      case measure => simp [intOf]; omega
    · obtain rfl : k = c := by omega
      have hkc2 : ¬ (k : Int) < (k : Int) := by omega
      have k3 : wr.cell? ⟨kb, 3, none⟩ = some vt := HQ.out.1.cell 3
      obtain ⟨gt, ot, kt, rfl, hgt, hgtl, hkt, hktm⟩ := HR.out.form2 (by omega)
      obtain ⟨wo, rfl⟩ : ∃ wo : World, wo = wr := ⟨_, rfl⟩
      go_wp2_with fail
      clear k3
      generalize hbs2 : bs1 ++ zB z k = bs2 at *
      have HBS2 := Lib.hid hbs2
      have hl2 : bs2.length ≤ 140737488355500 := by rw [← hbs2, List.length_append]; omega
      clear hbs2
      go_loopw [61] (fun i W => ∃ k : Nat, k ≤ t.length ∧ i = .int .i64 (k : Int) ∧ Hid (WB F W (fun i => ((S i ∨ w.heap.size ≤ i) ∧ i < w1.heap.size) ∨ w2.heap.size ≤ i) b o (bs2 ++ tB z t k)) ∧ Hid (Chg (fun i => (((S i ∨ w.heap.size ≤ i) ∧ i < w1.heap.size) ∨ w2.heap.size ≤ i) ∨ i = b) w2 W)) (fun i _ => t.length - (intOf i).toNat)
      case atStart => exact ⟨0, Nat.zero_le _, rfl, by show WB F _ _ _ _ _; simpa [tB] using HX.out, HC.out⟩
      case round =>
        clear HX HQ
        obtain ⟨n, hn, rfl, HX, HCn⟩ := hrel
        have HQ := Lib.hid (HKP.out wr HCn.out)
        have htl := tB_le z t HTT.out n hn
        have hzn := HCn.out.size
        by_cases hnl : n < t.length
        · have hnl2 : (n : Int) < (t.length : Int) := by omega
          have hrow := HQ.out.2.2.2.1
          have htk := xcs_at t n hnl
          have hcell := hrow.cell (n * 3) (by omega)
          have hcell1 := hrow.cell (n * 3 + 1) (by omega)
          have hcell2 := hrow.cell (n * 3 + 2) (by omega)
          rw [htk.1] at hcell
          rw [htk.2.1, ← Nat.add_assoc] at hcell1
          rw [htk.2.2, ← Nat.add_assoc] at hcell2
          have hok := HTT.out (gX t n) (gX_mem _ n hnl)
          have hst : tB z t (n + 1) = tB z t n ++ (cword z (gX t n).1 ++ nb (gX t n).2.1 (gX t n).2.2) := rfl
          have HST := Lib.hid hst
          have hbl0 : (bs2 ++ tB z t n).length + 22 ≤ 281474976710656 := by rw [List.length_append]; omega
          generalize gX t n = x at *
          obtain ⟨x1, x2, x3⟩ := x
          unfold XOk at hok
          dsimp only at hok hcell hcell1 hcell2 HST
          have hwx := cword_le z x1
          have hal : Chg (fun _ => False) wr (wr.alloc (.cells #[.int .i64 (x1 : Int), .int .i64 (x2 : Int), .int .u64 (x3 : Int)] 72)) := (Chg.refl _ _).alloc _
          have hbk := Blk.new wr #[.int .i64 (x1 : Int), .int .i64 (x2 : Int), .int .u64 (x3 : Int)] 72
          have k2 : wr.cell? ⟨kb, 2, none⟩ = some (.pointer (some ⟨ct, 0, none⟩)) := HQ.out.1.cell 2
          have hkbl := HQ.out.1.lt
          have hbwr := HX.out.lt
          have hkT := HT.out kb hTk
          have hkD := HD.out kb (Or.inl hTk)
          have HQA := Lib.hid ((HQ.out.1.chg hal (fun h => h)).drewN 1)
          have HBA := Lib.hid (hbk.drewN 1)
          have HMA := Lib.hid ((HQ.out.2.2.1.chg hal (fun _ _ _ h => h)).drewN 1)
          have HXA := Lib.hid ((HX.out.tight.chg hal (fun _ _ _ h => h) (fun h => h)).drewN 1)
          have HAL := Lib.hid hal
          have HKG : Hid (∀ (X : Nat → Prop), ¬ ((fun i => (((S i ∨ w.heap.size ≤ i) ∧ i < w1.heap.size) ∨ w2.heap.size ≤ i) ∧ i < wr.heap.size) kb ∨ kb = b) ∧ ¬ ((fun i => (((S i ∨ w.heap.size ≤ i) ∧ i < w1.heap.size) ∨ w2.heap.size ≤ i) ∧ i < wr.heap.size) wr.heap.size ∨ wr.heap.size = b)) := by
            show ∀ _, _
            intro _
            refine ⟨?_, ?_⟩
            · rintro (⟨⟨h3 | h3, _⟩ | h3, _⟩ | h3)
              · exact hkD (Or.inl h3)
              · omega
              · omega
              · exact hkD (Or.inr h3)
            · rintro (⟨_, h3⟩ | h3)
              · omega
              · omega
          clear hrow htk hst hal hbk hkD
          go_wp2_with fail
          go_region_held3 (fun w' => w'.cell? ⟨kb, 2, none⟩ = some (.pointer (some ⟨ct, 0, none⟩)) ∧ w'.cell? ⟨wr.heap.size, 0, none⟩ = some (.int .i64 (x1 : Int)))
            (first | (go_keep; done) | exact ⟨(HQA.out.chg hc5 (HKG.out (fun _ => True)).1).cell 2, (HBA.out.chg hc5 (HKG.out (fun _ => True)).2).cell 0⟩)
            ((go_at_call 41; refine (codeWrite_calls ct b o _ T z x1 _ _ HMA.out HXA.out (by omega)).mono ?_; rintro e w5 ⟨rfl, hW5, hc5⟩))
          have hz5 : (wr.alloc (.cells #[.int .i64 (x1 : Int), .int .i64 (x2 : Int), .int .u64 (x3 : Int)] 72)).heap.size ≤ w5.heap.size := hc5.size
          have hza := HAL.out.size
          have hb5 := HBA.out.chg hc5 (HKG.out (fun _ => True)).2
          have e2 : w5.cell? ⟨wr.heap.size, 2, none⟩ = some (.int .u64 (x3 : Int)) := hb5.cell 2
          have e1 : w5.cell? ⟨wr.heap.size, 1, none⟩ = some (.int .i64 (x2 : Int)) := hb5.cell 1
          have HC5 : Hid (Chg (fun i => (((S i ∨ w.heap.size ≤ i) ∧ i < w1.heap.size) ∨ w2.heap.size ≤ i) ∨ i = b) w2 w5) := ((HCn.out.trans HAL.out (fun _ h => h.elim)).drewN 1).trans hc5 (fun i h => Or.inl (h.imp And.left id))
          have HW5 : Hid (WB F w5 (fun i => ((S i ∨ w.heap.size ≤ i) ∧ i < w1.heap.size) ∨ w2.heap.size ≤ i) b o (bs2 ++ tB z t n ++ cword z x1)) := hW5.mono (fun i h => h.elim And.left (fun h => Or.inr (by have h' : (wr.alloc (.cells #[.int .i64 (x1 : Int), .int .i64 (x2 : Int), .int .u64 (x3 : Int)] 72)).heap.size ≤ i := h; omega)))
          have hl5 : (bs2 ++ tB z t n ++ cword z x1).length ≤ 281474976710656 := by rw [List.length_append]; omega
          clear hb5 hW5 hc5 HBA HQA HMA HXA HKG HAL k2
          go_wp2_with fail
          refine (writeA_calls b o _ _ x3 x2 w5 HW5.out (by omega) (by omega) hl5).mono ?_
          rintro e w6 ⟨rfl, hW6, hc6⟩
          have HW6 := Lib.hid hW6
          have HC6 := Lib.hid hc6
          clear hW6 hc6 e1 e2
          go_wp2
          go_roundw
          case rel =>
            refine ⟨n + 1, by omega, by go_num, ?_, ?_⟩
            · show WB F _ _ _ _ _
              have h9 := HW6.out.mono (fun i h => h.elim id (fun h => Or.inr (by omega)) : ∀ i, _ → ((S i ∨ w.heap.size ≤ i) ∧ i < w1.heap.size) ∨ w2.heap.size ≤ i)
              rw [HST.out]
              simpa only [List.append_assoc] using h9
            · show Chg _ _ _
              exact HC5.out.trans HC6.out (fun i h => Or.inl h)
          case measure => simp [intOf]; omega
        · obtain rfl : n = t.length := by omega
          have hnl2 : ¬ (t.length : Int) < (t.length : Int) := by omega
          have hz02 := HC2.out.size
          go_wp2
          go_end0
          refine ⟨rfl, ?_, HC2.out.trans HCn.out (fun i h => h.elim (fun h => h.elim (fun h => h.1.elim (fun h => Or.inl (Or.inl h)) Or.inr) (fun h => Or.inr (by omega))) (fun h => Or.inl (Or.inr h)))⟩
          have h9 := HX.out.mono (fun i h => h.elim And.left (fun h => Or.inr (by omega)) : ∀ i, _ → S i ∨ w.heap.size ≤ i)
          rw [← HBS2.out, ← HBS1.out] at h9
          unfold headB
          simpa only [List.append_assoc] using h9
end Go.Proofs.YtakoidkeaccgeaaDoor
