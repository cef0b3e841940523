/- canon: assign. -/
import Derived.Test.YtakoidkeaccgeaaDoorJ9
namespace Go.Proofs.YtakoidkeaccgeaaDoor
open Go.RowKit Go.Shelf

/-- Words as cells. -/
def wcs (l : List (Nat × Nat)) : List Value := l.flatMap fun x => [.int .u64 (x.1 : Int), .int .i64 (x.2 : Int)]
theorem wcs_cons (x : Nat × Nat) (l : List (Nat × Nat)) : wcs (x :: l) = .int .u64 (x.1 : Int) :: .int .i64 (x.2 : Int) :: wcs l := rfl
theorem wcs_length (l : List (Nat × Nat)) : (wcs l).length = l.length * 2 := by
  induction l with
  | nil => rfl
  | cons t l ih => rw [wcs_cons, List.length_cons, List.length_cons, ih, List.length_cons]; omega
theorem wcs_set : ∀ (l : List (Nat × Nat)) (i : Nat) (x : Nat × Nat), ((wcs l).set (i * 2) (.int .u64 (x.1 : Int))).set (i * 2 + 1) (.int .i64 (x.2 : Int)) = wcs (l.set i x)
  | [], i, x => rfl
  | y :: l, 0, x => by simp [wcs_cons]
  | y :: l, i + 1, x => by
    rw [List.set_cons_succ, wcs_cons, wcs_cons, show (i + 1) * 2 = i * 2 + 1 + 1 by omega, List.set_cons_succ, List.set_cons_succ, List.set_cons_succ, List.set_cons_succ, wcs_set l i x]
def gW (l : List (Nat × Nat)) (i : Nat) : Nat × Nat := l.getD i (0, 0)
theorem wcs_at : ∀ (l : List (Nat × Nat)) (i : Nat), i < l.length → (wcs l)[i * 2]? = some (.int .u64 ((gW l i).1 : Int)) ∧ (wcs l)[i * 2 + 1]? = some (.int .i64 ((gW l i).2 : Int))
  | y :: l, 0, _ => by simp [wcs_cons, gW]
  | y :: l, i + 1, h => by
    have := wcs_at l i (by simpa using h)
    rw [wcs_cons, show (i + 1) * 2 = i * 2 + 1 + 1 by omega]
    simpa [gW] using this
theorem wcs_get : ∀ (n i : Nat), i < n * 2 → (wcs (List.replicate n (0, 0)))[i]? = some (#[Value.int .u64 0, Value.int .i64 0][i % 2]!)
  | n + 1, 0, _ => by simp [List.replicate_succ, wcs_cons]
  | n + 1, 1, _ => by simp [List.replicate_succ, wcs_cons]
  | n + 1, i + 2, h => by
    rw [List.replicate_succ, wcs_cons, List.getElem?_cons_succ, List.getElem?_cons_succ, wcs_get n i (by omega), show (i + 2) % 2 = i % 2 by omega]
theorem wcs_rep (n : Nat) : (madeCells (Value.agg #[.int .u64 0, .int .i64 0]).cells (n * 2)).toList = wcs (List.replicate n (0, 0)) := by
  apply List.ext_getElem?
  intro i
  by_cases h : i < n * 2
  · rw [wcs_get n i h, show (Value.agg #[.int .u64 0, .int .i64 0]).cells = #[Value.int .u64 0, Value.int .i64 0] from rfl]
    simp [madeCells, h]
  · rw [List.getElem?_eq_none (by simp [madeCells]; omega), List.getElem?_eq_none (by rw [wcs_length]; simp; omega)]
theorem infoWord : (Tryd.prog.info? 137).map (fun i => (i.zero, i.size, i.bytes)) = some (some (.agg #[.int .u64 0, .int .i64 0]), 2, 16) := by kernel_rfl

def asgIn (l : List Nat) (n : Nat) (st : Nat × List (Nat × Nat) × List Nat) : Nat → Nat × List (Nat × Nat) × List Nat
  | 0 => st
  | k + 1 => if gN l k = n then ((asgIn l n st k).1 + 1, (asgIn l n st k).2.1.set k (turn (asgIn l n st k).1 n, n), (asgIn l n st k).2.2 ++ [k]) else asgIn l n st k
def asg (l : List Nat) : Nat → Nat × List (Nat × Nat) × List Nat
  | 0 => (0, List.replicate l.length (0, 0), [])
  | n + 1 => asgIn l (n + 1) (2 * (asg l n).1, (asg l n).2.1, (asg l n).2.2) l.length

theorem asgIn_le (l : List Nat) (n : Nat) (st : Nat × List (Nat × Nat) × List Nat) : ∀ k, (asgIn l n st k).1 ≤ st.1 + k ∧ (asgIn l n st k).2.2.length ≤ st.2.2.length + k ∧ (asgIn l n st k).2.1.length = st.2.1.length
  | 0 => ⟨Nat.le_refl _, Nat.le_refl _, rfl⟩
  | k + 1 => by
    have := asgIn_le l n st k
    unfold asgIn
    split
    · simp; omega
    · omega
theorem asg_le (l : List Nat) (hl : l.length ≤ 288) : ∀ n, (asg l n).1 + 288 ≤ 288 * 2 ^ n ∧ (asg l n).2.2.length ≤ 288 * n ∧ (asg l n).2.1.length = l.length
  | 0 => by simp [asg]
  | n + 1 => by
    have h := asg_le l hl n
    have h2 := asgIn_le l (n + 1) (2 * (asg l n).1, (asg l n).2.1, (asg l n).2.2) l.length
    have e : 2 ^ (n + 1) = 2 * 2 ^ n := Nat.pow_succ' ..
    unfold asg
    dsimp only at h2
    omega
/-- While words are assigned. -/
def AsgI (w0 wr : World) (cb : Nat) (vl : Value) (c l : List Nat) (st : Nat × List (Nat × Nat) × List Nat) : Prop :=
  ∃ vs, Blk wr cb (codeCells vl (.slice (some ⟨w0.heap.size, 0, none⟩) l.length l.length) c vs) 108 ∧
    wr.ownsRow w0.heap.size 137 2 (.slice (some ⟨w0.heap.size, 0, none⟩) l.length l.length) l.length (wcs st.2.1) ∧
    wr.ownsRow w0.heap.size 3 1 vs st.2.2.length (nis st.2.2) ∧ (∀ k, vs.ownBlock = some k → k ≠ w0.heap.size) ∧ Chg (fun k => k = cb) w0 wr

set_option maxHeartbeats 6400000 in
set_option maxRecDepth 100000 in
theorem assign_calls (cb : Nat) (S : Nat → Prop) (vl vw : Value) (c : List Nat) (l : List Nat) (w : World) (hb : Blk w cb (codeCells vl vw c (.slice none 0 0)) 108) (hr : Row w S 3 1 vl l.length (nis l)) (hS : ¬ S cb) (hl : ∀ n ∈ l, n ≤ 15) (hlen : l.length ≤ 288) (hc16 : c.length = 16) :
    Calls Tryd.prog 62 #[.pointer (some ⟨cb, 0, none⟩)] w fun e w' => e = .returned (.tuple #[]) ∧ ∃ vw' vs', Blk w' cb (codeCells vl vw' c vs') 108 ∧
      w'.ownsRow w.heap.size 137 2 vw' l.length (wcs (asg l 15).2.1) ∧ w'.ownsRow w.heap.size 3 1 vs' (asg l 15).2.2.length (nis (asg l 15).2.2) ∧ Chg (fun k => k = cb) w w' := by
  obtain ⟨A, c0, rfl, hm, hA⟩ := hr.form
  have b0 : w.cell? ⟨cb, 0, none⟩ = some (.slice A l.length c0) := hb.cell 0
  have b1 : w.cell? ⟨cb, 1, none⟩ = some vw := hb.cell 1
  have f1 := hb.frozen 1
  have hblt := hb.lt
  have HB := Lib.hid hb
  have HR := Lib.hid hr
  have HL := Lib.hid hl
  obtain ⟨iw, hi, hz0, hz1, hz2⟩ := info_parts infoWord
  clear hb hr hl hA
  go_enter Tryd.func62, Tryd.ntmps62
  go_wp2_with (at_make; go_loud (refine wpList_make_full _ rfl (.tmp 11) (.tmp 11) 105 rfl w.heap.size 137 iw (.agg #[.int .u64 0, .int .i64 0]) 2 Tryd.underlying105 hi hz0 hz1 .i64 .i64 _ _ l.length rfl rfl rfl rfl (by rw [hz2]; omega) (by unfold maxLen; omega) (Nat.le_refl _) ?_); intro w1 hown hgr; have hc1 : Chg (fun _ => False) w w1 := (Chg.refl _ _).grown hgr (fun k hk => by cases hk); have b0' := hc1.cell b0 (fun h => h); have b1' := hc1.cell b1 (fun h => h); have f1' := (hc1.frozen (p := ⟨cb, 1, none⟩) hblt (fun h => h)).trans f1)
  have hA0 : AsgI w (w1.setCell ⟨cb, 1, none⟩ (.slice (some ⟨w.heap.size, 0, none⟩) l.length l.length)) cb (.slice A l.length c0) c l (asg l 0) := by
    refine ⟨.slice none 0 0, ?_, ?_, own_nil _ _ _ _, fun k hk => by simp [Value.ownBlock] at hk, (hc1.mono (T := fun k => k = cb) (fun _ h => h.elim)).setCell (p := ⟨cb, 1, none⟩) (Or.inl rfl) _⟩
    · exact (HB.out.chg hc1 (fun h => h)).set 1 _
    · have hx : Chg (fun k => k = cb) w1 (w1.setCell ⟨cb, 1, none⟩ (.slice (some ⟨w.heap.size, 0, none⟩) l.length l.length)) := (Chg.refl (fun k => k = cb) w1).setCell (p := ⟨cb, 1, none⟩) (Or.inl rfl) _
      rw [wcs_rep] at hown
      refine hx.own hown (fun k hk he => ?_)
      simp [Value.ownBlock] at hk
      omega
  have HA0 := Lib.hid hA0
  have HC := Lib.hid hc16
  clear hA0 hc1 hown hgr b0 b1 f1 b0' b1' f1' hc16 HB
  generalize w1.setCell ⟨cb, 1, none⟩ (.slice (some ⟨w.heap.size, 0, none⟩) l.length l.length) = w2 at HA0
  go_loopw [2, 3] (fun a i W => ∃ n : Nat, 1 ≤ n ∧ n ≤ 16 ∧ i = .int .i64 (n : Int) ∧ a = .int .u64 ((asg l (n - 1)).1 : Int) ∧ Hid (AsgI w W cb (.slice A l.length c0) c l (asg l (n - 1)))) (fun _ i _ => 16 - (intOf i).toNat)
  case atStart => exact ⟨1, by omega, by omega, rfl, rfl, HA0.out⟩
  case round =>
    clear HA0
    obtain ⟨n, hn1, hn2, rfl, rfl, HA⟩ := hrel
    by_cases hlt : n < 16
    · have hb := asg_le l hlen (n - 1)
      have hp : 2 ^ (n - 1) ≤ 2 ^ 15 := Nat.pow_le_pow_right (by decide) (by omega)
      have hb1 : (asg l (n - 1)).1 ≤ 9437184 := by omega
      have hb2 : (asg l (n - 1)).2.2.length ≤ 4320 := by omega
      have HB1 := Lib.hid hb.2.2
      have hstep : asg l n = asgIn l n (2 * (asg l (n - 1)).1, (asg l (n - 1)).2.1, (asg l (n - 1)).2.2) l.length := by
        obtain ⟨m, rfl⟩ : ∃ m, n = m + 1 := ⟨n - 1, by omega⟩
        rfl
      have HST := Lib.hid hstep
      have hlt2 : (n : Int) ≤ 15 := by omega
      clear hb hp hstep
      have b0 : wr.cell? ⟨cb, 0, none⟩ = some (.slice A l.length c0) := by
        obtain ⟨vs, hblk, _⟩ := HA.out
        exact hblk.cell 0
      generalize hst : asg l (n - 1) = st at *
      have hst0 : (2 * st.1, st.2.1, st.2.2) = (2 * st.1, st.2.1, st.2.2) := rfl
      have hin := asgIn_le l n (2 * st.1, st.2.1, st.2.2)
      have HIN := Lib.hid hin
      have e2 : (st.1 : Int) * 2 = ((2 * st.1 : Nat) : Int) := by omega
      have HE2 := Lib.hid e2
      clear hst0 hin hst e2
      go_wp2
      go_loopw [2, 26] (fun a i W => ∃ k : Nat, k ≤ l.length ∧ i = .int .i64 (k : Int) ∧ a = .int .u64 ((asgIn l n (2 * st.1, st.2.1, st.2.2) k).1 : Int) ∧ Hid (AsgI w W cb (.slice A l.length c0) c l (asgIn l n (2 * st.1, st.2.1, st.2.2) k))) (fun _ i _ => l.length - (intOf i).toNat)
      case atStart => exact ⟨0, Nat.zero_le _, rfl, by rw [HE2.out]; rfl, HA.out⟩
      case round =>
        clear b0 HA
        rename_i wq
        obtain ⟨k, hk, rfl, rfl, HA⟩ := hrel
        by_cases hkl : k < l.length
        · have hb3 := HIN.out k
          have hb4 : (asgIn l n (2 * st.1, st.2.1, st.2.2) k).1 ≤ 18875000 := by have := hb3.1; omega
          have hb5 : (asgIn l n (2 * st.1, st.2.1, st.2.2) k).2.2.length ≤ 4700 := by have := hb3.2.1; omega
          have hb6 : (asgIn l n (2 * st.1, st.2.1, st.2.2) k).2.1.length = l.length := by have := hb3.2.2; rw [this, HB1.out]
          have hnext : asgIn l n (2 * st.1, st.2.1, st.2.2) (k + 1) = if gN l k = n then ((asgIn l n (2 * st.1, st.2.1, st.2.2) k).1 + 1, (asgIn l n (2 * st.1, st.2.1, st.2.2) k).2.1.set k (turn (asgIn l n (2 * st.1, st.2.1, st.2.2) k).1 n, n), (asgIn l n (2 * st.1, st.2.1, st.2.2) k).2.2 ++ [k]) else asgIn l n (2 * st.1, st.2.1, st.2.2) k := rfl
          have HN := Lib.hid hnext
          have H6 := Lib.hid hb6
          clear hb3 hb6 hnext
          generalize hsk : asgIn l n (2 * st.1, st.2.1, st.2.2) k = sk at *
          obtain ⟨vs, hblk, hvw, hvs, hne, hchg⟩ := HA.out
          obtain ⟨bg, off, rfl, hSb, hbl, hcell⟩ := (HR.out.chg hchg (fun i hi _ he => hS (he ▸ hi))).at_ A c0 rfl k (by omega)
          rw [nis_at l k hkl] at hcell
          have hle := HL.out (gN l k) (gN_mem l k hkl)
          have hkl2 : (k : Int) < (l.length : Int) := by omega
          have HBK := Lib.hid hblk
          have HVW := Lib.hid hvw
          have HVS := Lib.hid hvs
          have HNE := Lib.hid hne
          have HCH := Lib.hid hchg
          clear hblk hvw hvs hne hchg hsk
          by_cases hz : gN l k = n
          · have k1 : wr.cell? ⟨cb, 1, none⟩ = some (.slice (some ⟨w.heap.size, 0, none⟩) l.length l.length) := HBK.out.cell 1
            have k18 : wr.cell? ⟨cb, 18, none⟩ = some vs := by
              have := HBK.out.cell 18
              rw [this]
              have hc16 := HC.out
              match c, hc16 with
              | [_, _, _, _, _, _, _, _, _, _, _, _, _, _, _, _], _ => rfl
            have f18 := HBK.out.frozen 18
            have d0 := (HVW.out.cellAt (k * 2) (by omega)).trans (wcs_at sk.2.1 k (by rw [H6.out]; omega)).1
            have d1 := (HVW.out.cellAt (k * 2 + 1) (by omega)).trans (wcs_at sk.2.1 k (by rw [H6.out]; omega)).2
            have g0 := HVW.out.frozenAt (k * 2)
            have g1 := HVW.out.frozenAt (k * 2 + 1)
            have hcbB : cb ≠ w.heap.size := by omega
            have hBl : w.heap.size < wr.heap.size := World.block_lt_of_cell? wr _ d0
            have hcbl : cb < wr.heap.size := by have := HCH.out.size; omega
            have H18 := Lib.hid k18
            have HZ := Lib.hid hz
            have hzb : ((gN l k : Int) == (n : Int)) = true := by simp; omega
            have q1 := fun u v => (two_far wr w.heap.size (k * 2) u v ⟨cb, 1, none⟩ hcbB).trans k1
            have q2 := fun u v => two_0 wr w.heap.size (k * 2) u v _ d0
            have q3 := fun u v => two_1 wr w.heap.size (k * 2) u v _ d1
            clear k18 hz
            go_wp2
            go_region_held3 (fun (w' : World) => w'.cell? ⟨cb, 1, none⟩ = some (.slice (some ⟨w.heap.size, 0, none⟩) l.length l.length) ∧ (w'.cell? ⟨w.heap.size, k * 2, none⟩).isSome = true ∧ (w'.cell? ⟨w.heap.size, k * 2 + 1, none⟩).isSome = true ∧ w'.frozen? ⟨w.heap.size, k * 2, none⟩ = false ∧ w'.frozen? ⟨w.heap.size, k * 2 + 1, none⟩ = false)
              (first | go_keep)
              ((go_at_call 81; refine (turned_calls _ _ (by omega) (by omega) _).mono ?_; rintro e w' ⟨rfl, rfl⟩))
            have hc3 : Chg (fun i => i = w.heap.size) wr (((wr.setCell ⟨w.heap.size, k * 2, none⟩ (.int .u64 (turn sk.1 n : Int))).setCell ⟨w.heap.size, k * 2 + 1, none⟩ (.int .i64 (n : Int))).drew) := (((Chg.refl (fun i => i = w.heap.size) wr).setCell (p := ⟨w.heap.size, k * 2, none⟩) (Or.inl rfl) _).setCell (p := ⟨w.heap.size, k * 2 + 1, none⟩) (Or.inl rfl) _).drew
            have hvw3 : (((wr.setCell ⟨w.heap.size, k * 2, none⟩ (.int .u64 (turn sk.1 n : Int))).setCell ⟨w.heap.size, k * 2 + 1, none⟩ (.int .i64 (n : Int))).drew).ownsRow w.heap.size 137 2 (.slice (some ⟨w.heap.size, 0, none⟩) l.length l.length) l.length (wcs (sk.2.1.set k (turn sk.1 n, n))) := by
              have := ((HVW.out.stored (k * 2) (.int .u64 (turn sk.1 n : Int))).1.stored (k * 2 + 1) (.int .i64 (n : Int))).1.drew
              rw [← wcs_set]
              exact this
            generalize (((wr.setCell ⟨w.heap.size, k * 2, none⟩ (.int .u64 (turn sk.1 n : Int))).setCell ⟨w.heap.size, k * 2 + 1, none⟩ (.int .i64 (n : Int))).drew) = w3 at hc3 hvw3 ⊢
            have HC3 := Lib.hid hc3
            have HV3 := Lib.hid hvw3
            have hvs3 := hc3.own HVS.out (fun i hi he => HNE.out i hi he)
            have m18 := hc3.cell H18.out hcbB
            have n18 := (hc3.frozen (p := ⟨cb, 18, none⟩) hcbl hcbB).trans f18
            have hcbl3 : cb < w3.heap.size := by have := hc3.size; omega
            obtain ⟨ii, hii, hi0, hi1, hi2⟩ := info_parts infoInt
            have hvcb : vs.ownBlock ≠ some cb := fun e => by
              have := own_base HVS.out cb e
              omega
            clear hc3 hvw3 q1 q2 q3 d0 d1 g0 g1 k1 f18 hBl
            go_wp2_with (at_builtin; go_loud (refine wpList_append_lies _ rfl (.tmp 49) (.tmp 51) 22 rfl w.heap.size 3 ii _ 1 8 Tryd.underlying22 hii hi0 hi1 hi2 rfl (by omega) vs sk.2.2.length (nis sk.2.2) rfl (hvs3.alloc _) ⟨w3.heap.size, 0, none⟩ 1 1 [.int .i64 (k : Int)] rfl rfl (World.news_of_block (cs := #[.int .i64 (k : Int)]) (t := 3) (fr := (0, 0)) (heap_alloc_new w3 _)) (by simp [Value.oneCell']) (by omega) (by unfold maxLen; omega) (by omega) (by have := HC3.out.size; have := HCH.out.size; simp; omega) _ rfl ?_); intro gg cap w4 hown4 hgrow hat hlt4; have hc4 : Chg (fun i => vs.ownBlock = some i) w3 w4 := ((Chg.refl _ _).alloc _).grown hgrow (fun i hi => Or.inl hi); have m18' := hc4.cell m18 hvcb; have n18' := (hc4.frozen (p := ⟨cb, 18, none⟩) hcbl3 hvcb).trans n18)
            go_roundw
            case rel =>
              refine ⟨k + 1, by omega, by go_num, by rw [HN.out, if_pos HZ.out]; congr 1, ?_⟩
              rw [HN.out, if_pos HZ.out]
              have hs1 := HC3.out.size
              have hs0 := HCH.out.size
              have hvw4 := hc4.own HV3.out (fun i hi he => by
                simp [Value.ownBlock] at hi
                subst hi
                exact HNE.out _ he rfl)
              have hx : Chg (fun i => i = cb) w4 (w4.setCell ⟨cb, 18, none⟩ (.slice (some ⟨gg, 0, none⟩) (sk.2.2.length + 1) cap)) := (Chg.refl (fun i => i = cb) w4).setCell (p := ⟨cb, 18, none⟩) (Or.inl rfl) _
              have hggB : gg ≠ w.heap.size := by
                rcases hat with h | h
                · exact HNE.out gg h
                · simp at h; omega
              have hggb : w.heap.size ≤ gg := own_base hown4 gg rfl
              refine ⟨.slice (some ⟨gg, 0, none⟩) (sk.2.2.length + 1) cap, ?_, ?_, ?_, ?_, ?_⟩
              · have hb3 := ((HBK.out.chg HC3.out hcbB).chg hc4 hvcb).set 18 (.slice (some ⟨gg, 0, none⟩) (sk.2.2.length + 1) cap)
                have hc16 := HC.out
                match c, hc16, hb3 with
                | [_, _, _, _, _, _, _, _, _, _, _, _, _, _, _, _], _, hb3 => exact hb3
              · refine hx.own hvw4 (fun i hi he => ?_)
                simp [Value.ownBlock] at hi
                omega
              · refine hx.own ?_ (fun i hi he => ?_)
                · simpa [nis_append, nis] using hown4
                · simp [Value.ownBlock] at hi
                  omega
              · intro i hi
                simp [Value.ownBlock] at hi
                omega
              · refine ((HCH.out.trans HC3.out (fun i hi => Or.inr (by omega))).trans hc4 (fun i hi => Or.inr (own_base HVS.out i hi))).trans hx (fun i hi => Or.inl hi)
            case measure => simp [intOf]; omega
          · have hz2 : ((gN l k : Int) == (n : Int)) = false := by simp; omega
            have HZ := Lib.hid hz
            clear hz
            go_wp2
            go_roundw
            case rel => exact ⟨k + 1, by omega, by go_num, by rw [HN.out, if_neg HZ.out], by rw [HN.out, if_neg HZ.out]; exact HA.out⟩
            case measure => simp [intOf]; omega
        · obtain rfl : k = l.length := by omega
          go_wp2
          go_roundw
          case rel => exact ⟨n + 1, by omega, by omega, by go_num, by rw [Nat.add_sub_cancel, HST.out], by rw [Nat.add_sub_cancel, HST.out]; exact HA.out⟩
          case measure => simp [intOf]; omega
    · obtain rfl : n = 16 := by omega
      go_wp2
      go_end0
      obtain ⟨vs, hblk, hvw, hvs, hne, hchg⟩ := HA.out
      exact ⟨rfl, _, vs, hblk, hvw, hvs, hchg⟩
end Go.Proofs.YtakoidkeaccgeaaDoor

/- canon: New. -/
namespace Go.Proofs.YtakoidkeaccgeaaDoor
open Go.RowKit Go.Shelf

/-- A code of lengths l at block cb; all that it holds lies in S. -/
def CodeM (w : World) (S : Nat → Prop) (cb : Nat) (l : List Nat) : Prop :=
  ∃ vl vw vs, Blk w cb (codeCells vl vw (cnts l l.length) vs) 108 ∧ S cb ∧ Row w S 3 1 vl l.length (nis l) ∧
    Row w S 137 2 vw l.length (wcs (asg l 15).2.1) ∧ Row w S 3 1 vs (asg l 15).2.2.length (nis (asg l 15).2.2)
theorem CodeM.chg {w w' : World} {S T : Nat → Prop} {cb : Nat} {l : List Nat} (h : CodeM w S cb l) (hc : Chg T w w') (hS : ∀ k, S k → k < w.heap.size → ¬ T k) : CodeM w' S cb l := by
  obtain ⟨vl, vw, vs, hb, hs, h1, h2, h3⟩ := h
  exact ⟨vl, vw, vs, hb.chg hc (hS cb hs hb.lt), hs, h1.chg hc hS, h2.chg hc hS, h3.chg hc hS⟩
theorem CodeM.mono {w : World} {S T : Nat → Prop} {cb : Nat} {l : List Nat} (h : CodeM w S cb l) (hT : ∀ k, S k → T k) : CodeM w T cb l := by
  obtain ⟨vl, vw, vs, hb, hs, h1, h2, h3⟩ := h
  exact ⟨vl, vw, vs, hb, hT _ hs, h1.mono hT, h2.mono hT, h3.mono hT⟩
theorem CodeM.tight {w : World} {S : Nat → Prop} {cb : Nat} {l : List Nat} (h : CodeM w S cb l) : CodeM w (fun k => S k ∧ k < w.heap.size) cb l := by
  obtain ⟨vl, vw, vs, hb, hs, h1, h2, h3⟩ := h
  exact ⟨vl, vw, vs, hb, ⟨hs, hb.lt⟩, h1.tight, h2.tight, h3.tight⟩
theorem CodeM.lt {w : World} {S : Nat → Prop} {cb : Nat} {l : List Nat} (h : CodeM w S cb l) : cb < w.heap.size := by
  obtain ⟨vl, vw, vs, hb, _⟩ := h
  exact hb.lt
theorem CodeM.drewN {w : World} {S : Nat → Prop} {cb : Nat} {l : List Nat} (h : CodeM w S cb l) (m : Nat) : CodeM (w.drewN m) S cb l := h

/-- The error of lengths (0: none). -/
def newErr (l : List Nat) (loose : Bool) : Nat :=
  if leftK (cnts l l.length) 15 < 0 then 5 else if 0 < leftK (cnts l l.length) 15 ∧ ¬ (loose = true ∧ slackB (cnts l l.length) = true) then 4 else 0

set_option maxHeartbeats 6400000 in
set_option maxRecDepth 100000 in
theorem new_calls (S : Nat → Prop) (v : Value) (l : List Nat) (loose : Bool) (w : World) (hr : Row w S 3 1 v l.length (nis l)) (hl : ∀ n ∈ l, n ≤ 15) (hlen : l.length ≤ 288) :
    Calls Tryd.prog 40 #[v, .bool loose] w fun e w' => Chg (fun _ => False) w w' ∧
      ((newErr l loose = 0 ∧ ∃ cb, e = .returned (.tuple #[.pointer (some ⟨cb, 0, none⟩), .int .i64 0]) ∧ CodeM w' (fun k => w.heap.size ≤ k) cb l) ∨
       (newErr l loose ≠ 0 ∧ e = .returned (.tuple #[.pointer none, .int .i64 (newErr l loose : Int)]))) := by
  have hCF := containsFuncI_calls 58 S v l w hr (fun n hn W => canonBad_calls n (hl n hn) W) (enters_of Tryd.func58 (by kernel_rfl) rfl)
  have hCL := cloneI_calls S v l w hr (by omega)
  obtain ⟨A, c, rfl, hm, hA⟩ := hr.form
  have HL := Lib.hid hl
  have HCF := Lib.hid hCF
  have HCL := Lib.hid hCL
  clear hCF hCL hA hr hl
  have hlen2 : decide ((288 : Int) < (l.length : Int)) = false := by simp; omega
  go_enter Tryd.func40, Tryd.ntmps40
  go_wp2_with fail
  refine HCF.out.mono ?_
  rintro e w' ⟨rfl, hw⟩
  obtain rfl : w = w' := hw.symm
  go_wp2_with fail
  refine HCL.out.mono ?_
  rintro e w1 ⟨v1, rfl, hown1, hc1⟩
  obtain ⟨A1, c1, rfl⟩ := own_slice hown1
  go_wp2_with fail
  have hb2 := Blk.new w1 (codeCells (.slice A1 l.length c1) (.slice none 0 0) (List.replicate 16 0) (.slice none 0 0)).toArray 108
  have hc2 : Chg (fun _ => False) w1 (w1.alloc (.cells (codeCells (.slice A1 l.length c1) (.slice none 0 0) (List.replicate 16 0) (.slice none 0 0)).toArray 108)) := (Chg.refl _ _).alloc _
  have hown2 := hc2.own hown1 (fun _ _ h => h)
  have hW : w1.alloc (.cells (codeCells (.slice A1 l.length c1) (.slice none 0 0) (List.replicate 16 0) (.slice none 0 0)).toArray 108) = w1.alloc (.cells #[.slice A1 l.length c1, .slice none 0 0, .int .i64 0, .int .i64 0, .int .i64 0, .int .i64 0, .int .i64 0, .int .i64 0, .int .i64 0, .int .i64 0, .int .i64 0, .int .i64 0, .int .i64 0, .int .i64 0, .int .i64 0, .int .i64 0, .int .i64 0, .int .i64 0, .slice none 0 0] 108) := rfl
  rw [hW] at hb2 hc2 hown2
  have hsz1 := hc1.size
  have hbl : (w1.alloc (.cells #[.slice A1 l.length c1, .slice none 0 0, .int .i64 0, .int .i64 0, .int .i64 0, .int .i64 0, .int .i64 0, .int .i64 0, .int .i64 0, .int .i64 0, .int .i64 0, .int .i64 0, .int .i64 0, .int .i64 0, .int .i64 0, .int .i64 0, .int .i64 0, .int .i64 0, .slice none 0 0] 108)).heap.size = w1.heap.size + 1 := by simp
  generalize w1.alloc (.cells #[.slice A1 l.length c1, .slice none 0 0, .int .i64 0, .int .i64 0, .int .i64 0, .int .i64 0, .int .i64 0, .int .i64 0, .int .i64 0, .int .i64 0, .int .i64 0, .int .i64 0, .int .i64 0, .int .i64 0, .int .i64 0, .int .i64 0, .int .i64 0, .int .i64 0, .slice none 0 0] 108) = w2 at hb2 hc2 hown2 hbl ⊢
  clear hW
  generalize hcb : w1.heap.size = cb at *
  have hrow2 : Row w2 (fun k => w.heap.size ≤ k ∧ k < cb) 3 1 (.slice A1 l.length c1) l.length (nis l) := by
    refine Row.of_own hown2 (fun k hk => ⟨own_base hown1 k hk, ?_⟩)
    have := own_blk_lt hown1 k hk
    omega
  have hncb : ¬ (w.heap.size ≤ cb ∧ cb < cb) := by omega
  refine (fill_calls cb _ _ _ _ l w2 hb2 hrow2 hncb HL.out hlen).mono ?_
  rintro e w3 ⟨r, rfl, hr1, hr2, hb3, hc3⟩
  have hrow3 := hrow2.chg hc3 (fun k hk _ he => by omega)
  have hc03 : Chg (fun _ => False) w w3 := (hc1.trans hc2 (fun _ h => Or.inl h)).trans hc3 (fun k hk => Or.inr (by omega))
  have hcl := cnts_length l l.length
  have hle : ∀ j, gN (cnts l l.length) j ≤ 288 := fun j => Nat.le_trans (cnts_le l _ j) hlen
  have HC03 := Lib.hid hc03
  have HR3 := Lib.hid hrow3
  have HB3 := Lib.hid hb3
  have HCL' := Lib.hid hcl
  have HLE := Lib.hid hle
  have HLN := Lib.hid hlen
  have HSZ : Hid (w.heap.size ≤ cb) := hsz1
  have HS3 := hc3.size
  -- behind assign
  have hfin : Calls Tryd.prog 62 #[.pointer (some ⟨cb, 0, none⟩)] w3 fun e w' => e = .returned (.tuple #[]) ∧ CodeM w' (fun k => w.heap.size ≤ k) cb l ∧ Chg (fun _ => False) w w' := by
    refine (assign_calls cb _ _ _ _ l w3 hb3 hrow3 hncb HL.out hlen hcl).mono ?_
    rintro e w4 ⟨rfl, vw', vs', hb4, ho4, hs4, hc4⟩
    refine ⟨rfl, ⟨_, vw', vs', hb4, by omega, (hrow3.chg hc4 (fun k hk _ he => by omega)).mono (fun k hk => hk.1), Row.of_own ho4 (fun k hk => ?_), Row.of_own hs4 (fun k hk => ?_)⟩, hc03.trans hc4 (fun k hk => Or.inr (by omega))⟩
    · have := own_base ho4 k hk; omega
    · have := own_base hs4 k hk; omega
  have HFIN := Lib.hid hfin
  clear hfin hc03 hrow3 hb3 hcl hle hlen hrow2 hb2 hown2 hown1 hc1 hc2 hc3 hcb hsz1 hbl hncb hlen2 HS3 HCF HCL hm
  by_cases hneg : leftK (cnts l l.length) 15 < 0
  · have hrn : r < 0 := hr1.2 hneg
    have hE : newErr l loose = 5 := if_pos hneg
    have HE := Lib.hid hE
    clear hr1 hr2 hneg hE
    go_wp2
    go_returns
    exact ⟨HC03.out, Or.inr ⟨by rw [HE.out]; omega, by rw [HE.out]; rfl⟩⟩
  · have hrn : 0 ≤ r := by
      by_cases h : r < 0
      · exact absurd (hr1.1 h) hneg
      · omega
    have hre := hr2 hrn
    by_cases hpos : 0 < leftK (cnts l l.length) 15
    · have hrp : 0 < r := by omega
      have HSL := Lib.hid (slack_calls cb _ _ _ _ w3 HB3.out HCL'.out HLE.out)
      cases loose with
      | false =>
        have hE : newErr l false = 4 := by unfold newErr; rw [if_neg hneg, if_pos ⟨hpos, by simp⟩]
        have HE := Lib.hid hE
        clear hr1 hr2 hneg hE hre hpos
        go_wp2
        go_returns
        exact ⟨HC03.out, Or.inr ⟨by rw [HE.out]; omega, by rw [HE.out]; rfl⟩⟩
      | true =>
        cases hsl : slackB (cnts l l.length) with
        | false =>
          have hE : newErr l true = 4 := by unfold newErr; rw [if_neg hneg, if_pos ⟨hpos, by simp [hsl]⟩]
          have HE := Lib.hid hE
          have HSB := Lib.hid hsl
          clear hr1 hr2 hneg hE hre hpos hsl
          go_wp2_with fail
          refine HSL.out.mono ?_
          rintro e w4 ⟨rfl, hw⟩
          obtain rfl : w3 = w4 := hw.symm
          rw [HSB.out]
          go_wp2
          go_returns
          exact ⟨HC03.out, Or.inr ⟨by rw [HE.out]; omega, by rw [HE.out]; rfl⟩⟩
        | true =>
          have hE : newErr l true = 0 := by unfold newErr; rw [if_neg hneg, if_neg (by simp [hsl])]
          have HE := Lib.hid hE
          have HSB := Lib.hid hsl
          clear hr1 hr2 hneg hE hre hpos hsl
          go_wp2_with fail
          refine HSL.out.mono ?_
          rintro e w4 ⟨rfl, hw⟩
          obtain rfl : w3 = w4 := hw.symm
          rw [HSB.out]
          go_wp2_with fail
          refine HFIN.out.mono ?_
          rintro e w4 ⟨rfl, hM, hC⟩
          have HM := Lib.hid hM
          go_wp2
          go_returns
          exact ⟨hC, Or.inl ⟨HE.out, cb, rfl, HM.out⟩⟩
    · have hrp : ¬ 0 < r := by omega
      have hE : newErr l loose = 0 := by unfold newErr; rw [if_neg hneg, if_neg (fun h => hpos h.1)]
      have HE := Lib.hid hE
      clear hr1 hr2 hneg hE hre hpos
      go_wp2_with fail
      refine HFIN.out.mono ?_
      rintro e w4 ⟨rfl, hM, hC⟩
      have HM := Lib.hid hM
      go_wp2
      go_returns
      exact ⟨hC, Or.inl ⟨HE.out, cb, rfl, HM.out⟩⟩
end Go.Proofs.YtakoidkeaccgeaaDoor
