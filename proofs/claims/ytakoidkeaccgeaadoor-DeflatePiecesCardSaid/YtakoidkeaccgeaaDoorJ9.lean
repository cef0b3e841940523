/- block: Pack. -/
import Derived.Test.YtakoidkeaccgeaaDoorJ8
import Derived.Test.YtakoidkeaccgeaaDoorJ4
namespace Go.Proofs.YtakoidkeaccgeaaDoor
open Go.RowKit Go.Shelf

def xc (x : Nat × Nat × Nat) : List Value := [.int .i64 (x.1 : Int), .int .i64 (x.2.1 : Int), .int .u64 (x.2.2 : Int)]
def xcs (l : List (Nat × Nat × Nat)) : List Value := l.flatMap xc
theorem xcs_append (l m : List (Nat × Nat × Nat)) : xcs (l ++ m) = xcs l ++ xcs m := by simp [xcs]
theorem xcs_one (x : Nat × Nat × Nat) : xcs [x] = xc x := by simp [xcs]
theorem infoExtra : (Tryd.prog.info? 72).map (fun i => (i.zero, i.size, i.bytes)) = some (some (.agg #[.int .i64 0, .int .i64 0, .int .u64 0]), 3, 24) := by kernel_rfl
set_option maxHeartbeats 1600000 in
set_option maxRecDepth 100000 in
theorem packBad_calls (n : Nat) (hn : n ≤ 15) (w : World) : Calls Tryd.prog 32 #[.int .i64 (n : Int)] w fun e w' => e = .returned (.bool false) ∧ w' = w := by
  have h1 : decide ((15 : Int) < (n : Int)) = false := by simp; omega
  go_enter Tryd.func32, Tryd.ntmps32
  go_wp2
  go_returns
  exact ⟨rfl, rfl⟩

/-- While lengths are packed: what is told so far. -/
def PackI (w W : World) (o : Value) (l : List Nat) (done : List (Nat × Nat × Nat)) : Prop :=
  W.ownsRow w.heap.size 72 3 o done.length (xcs done) ∧ done.length ≤ l.length ∧ Chg (fun _ => False) w W

set_option maxHeartbeats 6400000 in
set_option maxRecDepth 100000 in
theorem pack_calls (S : Nat → Prop) (v : Value) (l : List Nat) (w : World) (hr : Row w S 3 1 v l.length (nis l)) (hl : ∀ n ∈ l, n ≤ 15) (hlen : l.length ≤ 1000) :
    Calls Tryd.prog 20 #[v] w fun e w' => ∃ v', e = .returned v' ∧ w'.ownsRow w.heap.size 72 3 v' (packN l).length (xcs (packN l)) ∧ Chg (fun _ => False) w w' := by
  have hCF := containsFuncI_calls 32 S v l w hr (fun n hn W => packBad_calls n (hl n hn) W) (enters_of Tryd.func32 (by kernel_rfl) rfl)
  obtain ⟨A, c, rfl, hm, hA⟩ := hr.form
  have HL := Lib.hid hl
  have HR := Lib.hid hr
  have HCF := Lib.hid hCF
  have HA := Lib.hid hA
  obtain ⟨ie, hie, hi0, hi1, hi2⟩ := info_parts infoExtra
  clear hCF hA hr hl
  go_enter Tryd.func20, Tryd.ntmps20
  go_wp2_with fail
  refine HCF.out.mono ?_
  rintro e w' ⟨rfl, hw⟩
  obtain rfl : w = w' := hw.symm
  go_wp2
  go_loopw [4, 5] (fun o i W => ∃ (k : Nat) (done : List (Nat × Nat × Nat)), k ≤ l.length ∧ i = .int .i64 (k : Int) ∧ Hid (done.length ≤ k) ∧ Hid (packN l = done ++ packOut l l.length k) ∧ Hid (PackI w W o l done)) (fun _ i _ => l.length - (intOf i).toNat)
  case atStart => exact ⟨0, [], Nat.zero_le _, rfl, Nat.le_refl _, rfl, own_nil _ _ _ _, Nat.zero_le _, Chg.refl _ _⟩
  case round =>
    obtain ⟨k, done, hk, rfl, HDL, HP, HI⟩ := hrel
    by_cases hlt : k < l.length
    · obtain ⟨ho, hdl, hch⟩ := HI.out
      have hR2 := HR.out.chg hch (fun _ _ _ h => h)
      obtain ⟨g, off, rfl, hSg, hg, hcell⟩ := hR2.at_ A c rfl k (by omega)
      rw [nis_at l k hlt] at hcell
      have hle := HL.out (gN l k) (gN_mem l k hlt)
      have hrun := runN_le l k hlt
      have HRUN := Lib.hid (fun W => run_calls S (.slice (some ⟨g, off, none⟩) l.length c) l k W)
      have hst : packOut l l.length k = packRun (gN l k) (runN l k) ++ packOut l l.length (k + runN l k) := by
        obtain ⟨f, hf⟩ : ∃ f, l.length = f + 1 := ⟨l.length - 1, by omega⟩
        conv => lhs; rw [hf, packOut, if_pos hlt]
        rw [packOut_fuel l f l.length (k + runN l k) (by omega) (by omega)]
      have HST := Lib.hid hst
      have HO := Lib.hid ho
      have HR2 := Lib.hid hR2
      have HCH := Lib.hid hch
      have hlt2 : (k : Int) < (l.length : Int) := by omega
      clear hst ho hR2 hch hdl
      go_wp2
      go_quiet ((go_at_call 34; exact Calls.quiet_of (HRUN.out _ (HR2.out.drewN _) hlt (by omega))))
      have hdl2 := HDL.out
      by_cases hz : gN l k = 0
      · have hzb : ((gN l k : Int) != 0) = false := by simp; omega
        have hpr : packRun (gN l k) (runN l k) = packIn (gN l k) (runN l k) (runN l k) := if_neg (fun x => x hz)
        have HPR := Lib.hid hpr
        clear hpr hz
        go_wp2
        go_loopw [4, 7] (fun o n W => ∃ (m : Nat) (dn : List (Nat × Nat × Nat)), m ≤ 1000 ∧ n = .int .i64 (m : Int) ∧ Hid (dn.length + m ≤ k + runN l k) ∧ Hid (packN l = dn ++ packIn (gN l k) m m ++ packOut l l.length (k + runN l k)) ∧ Hid (PackI w W o l dn)) (fun _ n _ => (intOf n).toNat)
        case atStart => exact ⟨runN l k, done, by omega, rfl, by show done.length + runN l k ≤ _; omega, by rw [HP.out, HST.out, HPR.out, List.append_assoc]; rfl, ⟨HO.out, by omega, HCH.out.drewN _⟩⟩
        case round =>
          obtain ⟨m, dn, hm2, rfl, HDM, HPM, HIM⟩ := hrel
          by_cases hm0 : 0 < m
          · have hm0' : (0 : Int) < (m : Int) := by omega
            have HAG := Lib.hid (fun W => again_calls (gN l k) m hle (by omega) W)
            have hale := againN_le (gN l k) m
            have HALE := Lib.hid hale
            have hps : packIn (gN l k) m m = if (againN (gN l k) m).2.2 = true then (againN (gN l k) m).1 :: packIn (gN l k) (m - 1) (m - (againN (gN l k) m).2.1) else (gN l k, 0, 0) :: packIn (gN l k) (m - 1) (m - 1) := by
              obtain ⟨f, rfl⟩ : ∃ f, m = f + 1 := ⟨m - 1, by omega⟩
              show (if _ then _ else _) = _
              rw [if_pos hm0, Nat.add_sub_cancel]
            have HPS := Lib.hid hps
            clear hale hps
            obtain ⟨hom, hdm, hcm⟩ := HIM.out
            have hsz0 := hcm.size
            have HOM := Lib.hid hom
            have HCM := Lib.hid hcm
            have hdm2 := HDM.out
            clear hom hcm
            generalize hag : againN (gN l k) m = ag at *
            obtain ⟨x, kk, ok⟩ := ag
            dsimp only at HAG HALE HPS
            go_wp2_with fail
            refine (HAG.out _).mono ?_
            rintro e wa ⟨rfl, hca⟩
            have hsa := hca.size
            have hoa := hca.own HOM.out (fun _ _ h => h)
            unfold xtra
            obtain ⟨x1, x2, x3⟩ := x
            dsimp only at *
            have HCA := Lib.hid hca
            have HOA := Lib.hid hoa
            clear hca hoa
            cases ok with
            | true =>
              have hkk := HALE.out rfl
              have hps := HPS.out
              rw [if_pos rfl] at hps
              have HP2 := Lib.hid hps
              clear hps HPS HALE
              go_wp2_with (at_builtin; go_loud (refine wpList_append_lies _ rfl _ (.tmp 52) 51 rfl w.heap.size 72 ie _ 3 24 Tryd.underlying51 hie hi0 hi1 hi2 rfl (by omega) _ dn.length (xcs dn) rfl ((HOA.out.alloc _).alloc _) ⟨wa.heap.size + 1, 0, none⟩ 1 1 (xc (x1, x2, x3)) (by first | rfl | simp) rfl (by exact World.news_of_block (cs := #[.int .i64 (x1 : Int), .int .i64 (x2 : Int), .int .u64 (x3 : Int)]) (t := 72) (fr := (0, 0)) (heap_alloc_at _ _ _ (by simp))) (by simp [xc, Value.oneCell']) (by omega) (by unfold maxLen; omega) (by omega) (by simp; omega) _ rfl ?_); intro gg cap w4 hown4 hgrow hat hlt4)
              go_roundw
              case rel =>
                refine ⟨m - kk, dn ++ [(x1, x2, x3)], by omega, by congr 1; omega, ?_, ?_, ?_, ?_, ?_⟩
                · show (dn ++ [(x1, x2, x3)]).length + (m - kk) ≤ _
                  simp; omega
                · show packN l = _
                  rw [HPM.out, HP2.out]
                  rw [packIn_fuel (gN l k) (m - 1) (m - kk) (m - kk) (by omega) (by omega)]
                  simp
                · rw [List.length_append, xcs_append, xcs_one]; exact hown4
                · simp; omega
                · exact (((HCM.out.trans HCA.out (fun _ h => Or.inl h)).alloc _).alloc _).grown hgrow (fun i hi => Or.inr (own_base HOM.out i hi))
              case measure => simp [intOf]; omega
            | false =>
              have hps := HPS.out
              rw [if_neg (by simp)] at hps
              have HP2 := Lib.hid hps
              clear hps HPS HALE
              go_wp2_with (at_builtin; go_loud (refine wpList_append_lies _ rfl _ (.tmp 52) 51 rfl w.heap.size 72 ie _ 3 24 Tryd.underlying51 hie hi0 hi1 hi2 rfl (by omega) _ dn.length (xcs dn) rfl ((HOA.out.alloc _).alloc _) ⟨wa.heap.size + 1, 0, none⟩ 1 1 (xc (gN l k, 0, 0)) (by first | rfl | simp) rfl (by exact World.news_of_block (cs := #[.int .i64 (gN l k : Int), .int .i64 0, .int .u64 0]) (t := 72) (fr := (0, 0)) (heap_alloc_at _ _ _ (by simp))) (by simp [xc, Value.oneCell']) (by omega) (by unfold maxLen; omega) (by omega) (by simp; omega) _ rfl ?_); intro gg cap w4 hown4 hgrow hat hlt4)
              go_roundw
              case rel =>
                refine ⟨m - 1, dn ++ [(gN l k, 0, 0)], by omega, by congr 1; omega, ?_, ?_, ?_, ?_, ?_⟩
                · show (dn ++ [(gN l k, 0, 0)]).length + (m - 1) ≤ _
                  simp; omega
                · show packN l = _
                  rw [HPM.out, HP2.out]
                  simp
                · rw [List.length_append, xcs_append, xcs_one]; exact hown4
                · simp; omega
                · exact (((HCM.out.trans HCA.out (fun _ h => Or.inl h)).alloc _).alloc _).grown hgrow (fun i hi => Or.inr (own_base HOM.out i hi))
              case measure => simp [intOf]; omega
          · obtain rfl : m = 0 := by omega
            go_wp2
            go_roundw
            case rel => exact ⟨k + runN l k, dn, by omega, by go_num, by have := HDM.out; show dn.length ≤ _; omega, by show packN l = _; rw [HPM.out]; simp [packIn], HIM.out⟩
            case measure => simp [intOf]; omega
      · have hzb : ((gN l k : Int) != 0) = true := by simp; omega
        have hpr : packRun (gN l k) (runN l k) = (gN l k, 0, 0) :: packIn (gN l k) (runN l k - 1) (runN l k - 1) := if_pos hz
        have HPR := Lib.hid hpr
        clear hpr hz
        go_wp2_with (at_builtin; go_loud (refine wpList_append_lies _ rfl (.tmp 30) (.tmp 33) 51 rfl w.heap.size 72 ie _ 3 24 Tryd.underlying51 hie hi0 hi1 hi2 rfl (by omega) _ done.length (xcs done) rfl (HO.out.alloc _) ⟨wr.heap.size, 0, none⟩ 1 1 (xc (gN l k, 0, 0)) rfl rfl (World.news_of_block (cs := #[.int .i64 (gN l k : Int), .int .i64 0, .int .u64 0]) (t := 72) (fr := (0, 0)) (heap_alloc_new wr _)) (by simp [xc, Value.oneCell']) (by omega) (by unfold maxLen; omega) (by omega) (by have := HCH.out.size; simp; omega) _ rfl ?_); intro gg cap w4 hown4 hgrow hat hlt4)
        go_loopw [4, 7] (fun o n W => ∃ (m : Nat) (dn : List (Nat × Nat × Nat)), m ≤ 1000 ∧ n = .int .i64 (m : Int) ∧ Hid (dn.length + m ≤ k + runN l k) ∧ Hid (packN l = dn ++ packIn (gN l k) m m ++ packOut l l.length (k + runN l k)) ∧ Hid (PackI w W o l dn)) (fun _ n _ => (intOf n).toNat)
        case atStart => exact ⟨(runN l k - 1), (done ++ [(gN l k, 0, 0)]), by omega, by congr 1; omega, by show (done ++ [(gN l k, 0, 0)]).length + (runN l k - 1) ≤ _; simp; omega, by show packN l = _; rw [HP.out, HST.out, HPR.out]; simp, ⟨by rw [List.length_append, xcs_append, xcs_one]; exact hown4, by simp; omega, (((HCH.out.drewN _).alloc _).grown hgrow (fun i hi => Or.inr (own_base HO.out i hi)))⟩⟩
        case round =>
          obtain ⟨m, dn, hm2, rfl, HDM, HPM, HIM⟩ := hrel
          by_cases hm0 : 0 < m
          · have hm0' : (0 : Int) < (m : Int) := by omega
            have HAG := Lib.hid (fun W => again_calls (gN l k) m hle (by omega) W)
            have hale := againN_le (gN l k) m
            have HALE := Lib.hid hale
            have hps : packIn (gN l k) m m = if (againN (gN l k) m).2.2 = true then (againN (gN l k) m).1 :: packIn (gN l k) (m - 1) (m - (againN (gN l k) m).2.1) else (gN l k, 0, 0) :: packIn (gN l k) (m - 1) (m - 1) := by
              obtain ⟨f, rfl⟩ : ∃ f, m = f + 1 := ⟨m - 1, by omega⟩
              show (if _ then _ else _) = _
              rw [if_pos hm0, Nat.add_sub_cancel]
            have HPS := Lib.hid hps
            clear hale hps
            obtain ⟨hom, hdm, hcm⟩ := HIM.out
            have hsz0 := hcm.size
            have HOM := Lib.hid hom
            have HCM := Lib.hid hcm
            have hdm2 := HDM.out
            clear hom hcm
            generalize hag : againN (gN l k) m = ag at *
            obtain ⟨x, kk, ok⟩ := ag
            dsimp only at HAG HALE HPS
            go_wp2_with fail
            refine (HAG.out _).mono ?_
            rintro e wa ⟨rfl, hca⟩
            have hsa := hca.size
            have hoa := hca.own HOM.out (fun _ _ h => h)
            unfold xtra
            obtain ⟨x1, x2, x3⟩ := x
            dsimp only at *
            have HCA := Lib.hid hca
            have HOA := Lib.hid hoa
            clear hca hoa
            cases ok with
            | true =>
              have hkk := HALE.out rfl
              have hps := HPS.out
              rw [if_pos rfl] at hps
              have HP2 := Lib.hid hps
              clear hps HPS HALE
              go_wp2_with (at_builtin; go_loud (refine wpList_append_lies _ rfl _ (.tmp 52) 51 rfl w.heap.size 72 ie _ 3 24 Tryd.underlying51 hie hi0 hi1 hi2 rfl (by omega) _ dn.length (xcs dn) rfl ((HOA.out.alloc _).alloc _) ⟨wa.heap.size + 1, 0, none⟩ 1 1 (xc (x1, x2, x3)) (by first | rfl | simp) rfl (by exact World.news_of_block (cs := #[.int .i64 (x1 : Int), .int .i64 (x2 : Int), .int .u64 (x3 : Int)]) (t := 72) (fr := (0, 0)) (heap_alloc_at _ _ _ (by simp))) (by simp [xc, Value.oneCell']) (by omega) (by unfold maxLen; omega) (by omega) (by simp; omega) _ rfl ?_); intro gg cap w4 hown4 hgrow hat hlt4)
              go_roundw
              case rel =>
                refine ⟨m - kk, dn ++ [(x1, x2, x3)], by omega, by congr 1; omega, ?_, ?_, ?_, ?_, ?_⟩
                · show (dn ++ [(x1, x2, x3)]).length + (m - kk) ≤ _
                  simp; omega
                · show packN l = _
                  rw [HPM.out, HP2.out]
                  rw [packIn_fuel (gN l k) (m - 1) (m - kk) (m - kk) (by omega) (by omega)]
                  simp
                · rw [List.length_append, xcs_append, xcs_one]; exact hown4
                · simp; omega
                · exact (((HCM.out.trans HCA.out (fun _ h => Or.inl h)).alloc _).alloc _).grown hgrow (fun i hi => Or.inr (own_base HOM.out i hi))
              case measure => simp [intOf]; omega
            | false =>
              have hps := HPS.out
              rw [if_neg (by simp)] at hps
              have HP2 := Lib.hid hps
              clear hps HPS HALE
              go_wp2_with (at_builtin; go_loud (refine wpList_append_lies _ rfl _ (.tmp 52) 51 rfl w.heap.size 72 ie _ 3 24 Tryd.underlying51 hie hi0 hi1 hi2 rfl (by omega) _ dn.length (xcs dn) rfl ((HOA.out.alloc _).alloc _) ⟨wa.heap.size + 1, 0, none⟩ 1 1 (xc (gN l k, 0, 0)) (by first | rfl | simp) rfl (by exact World.news_of_block (cs := #[.int .i64 (gN l k : Int), .int .i64 0, .int .u64 0]) (t := 72) (fr := (0, 0)) (heap_alloc_at _ _ _ (by simp))) (by simp [xc, Value.oneCell']) (by omega) (by unfold maxLen; omega) (by omega) (by simp; omega) _ rfl ?_); intro gg cap w4 hown4 hgrow hat hlt4)
              go_roundw
              case rel =>
                refine ⟨m - 1, dn ++ [(gN l k, 0, 0)], by omega, by congr 1; omega, ?_, ?_, ?_, ?_, ?_⟩
                · show (dn ++ [(gN l k, 0, 0)]).length + (m - 1) ≤ _
                  simp; omega
                · show packN l = _
                  rw [HPM.out, HP2.out]
                  simp
                · rw [List.length_append, xcs_append, xcs_one]; exact hown4
                · simp; omega
                · exact (((HCM.out.trans HCA.out (fun _ h => Or.inl h)).alloc _).alloc _).grown hgrow (fun i hi => Or.inr (own_base HOM.out i hi))
              case measure => simp [intOf]; omega
          · obtain rfl : m = 0 := by omega
            go_wp2
            go_roundw
            case rel => exact ⟨k + runN l k, dn, by omega, by go_num, by have := HDM.out; show dn.length ≤ _; omega, by show packN l = _; rw [HPM.out]; simp [packIn], HIM.out⟩
            case measure => simp [intOf]; omega
    · obtain rfl : k = l.length := by omega
      go_wp2
      go_returns
      obtain ⟨ho, hdl, hch⟩ := HI.out
      have hz : packOut l l.length l.length = [] := by
        cases hl0 : l.length with
        | zero => rfl
        | succ f => rw [packOut, if_neg (by omega)]
      have hp := HP.out
      rw [hz, List.append_nil] at hp
      rw [hp]
      exact ⟨_, rfl, ho, hch⟩
end Go.Proofs.YtakoidkeaccgeaaDoor

/- block: strict, may, counts. -/
namespace Go.Proofs.YtakoidkeaccgeaaDoor
open Go.RowKit Go.Shelf Go.Sort

def posK (l : List Nat) : Nat → Nat
  | 0 => 0
  | k + 1 => if 0 < gN l k then posK l k + 1 else posK l k
def fzK (l : List Nat) : Nat → Int
  | 0 => -1
  | k + 1 => if 0 < gN l k then fzK l k else if fzK l k < 0 then (k : Int) else fzK l k
theorem fzK_range (l : List Nat) : ∀ k, -1 ≤ fzK l k ∧ fzK l k < k ∧ posK l k ≤ k ∧ (fzK l k < 0 → posK l k = k)
  | 0 => by simp [fzK, posK]
  | k + 1 => by
    have := fzK_range l k
    unfold fzK posK
    split
    · refine ⟨this.1, by omega, by omega, fun h => ?_⟩
      rw [this.2.2.2 h]
    · split <;> omega
/-- Lengths, where one symbol alone comes another one has a word too. -/
def strictN (c : List Nat) (b : Nat) : List Nat := if posK (mergeN c b) c.length = 1 then (mergeN c b).set (fzK (mergeN c b) c.length).toNat 1 else mergeN c b
theorem mergeN_length (c : List Nat) (m : Nat) : (mergeN c m).length = c.length := by
  unfold mergeN
  split
  · rw [ones_length]; simp
  · rw [bump_length]; simp
theorem strictN_length (c : List Nat) (m : Nat) : (strictN c m).length = c.length := by
  unfold strictN
  split
  · rw [List.length_set, mergeN_length]
  · exact mergeN_length c m

set_option maxHeartbeats 6400000 in
set_option maxRecDepth 100000 in
theorem strict_calls (S : Nat → Prop) (v : Value) (c : List Nat) (most : Nat) (w : World) (hr : Row w S 3 1 v c.length (nis c)) (h2 : 2 ≤ c.length) (hlen : c.length ≤ 288) (hc : ∀ n ∈ c, n ≤ 1099511627776) (hm1 : 1 ≤ most) (hm2 : most ≤ 15) (ho : (orderN c).length ≤ 2 ^ most) :
    Calls Tryd.prog 45 #[v, .int .i64 (most : Int)] w fun e w' => ∃ v', e = .returned v' ∧ w'.ownsRow w.heap.size 3 1 v' c.length (nis (strictN c most)) ∧ Chg (fun _ => False) w w' := by
  have HLN := Lib.hid (lengths_calls S v c most w hr hlen hc hm1 hm2 ho)
  have hd : strictN c most = if posK (mergeN c most) c.length = 1 then (mergeN c most).set (fzK (mergeN c most) c.length).toNat 1 else mergeN c most := rfl
  have HD := Lib.hid hd
  have hml := mergeN_length c most
  have HML := Lib.hid hml
  clear hr hd hml hc ho
  go_enter Tryd.func45, Tryd.ntmps45
  go_wp2_with fail
  refine HLN.out.mono ?_
  rintro e w1 ⟨v1, rfl, ho1, hc1⟩
  have hne : v1 ≠ .slice none 0 0 := by
    rintro rfl
    rcases ho1.2 with ⟨_, h⟩ | ⟨g, cap, cur, he, _⟩
    · omega
    · cases he
  obtain ⟨A1, k1, rfl⟩ := own_slice ho1
  have hr1 := Row.of_own (S := fun b => w.heap.size ≤ b) ho1 (fun b hb => own_base ho1 b hb)
  have HR1 := Lib.hid hr1
  have HO1 := Lib.hid ho1
  have HC1 := Lib.hid hc1
  generalize hl : mergeN c most = l at *
  have hfr := fzK_range l
  have HFR := Lib.hid hfr
  clear hr1 ho1 hc1 hfr hl
  go_wp2
  go_loop [7, 8, 19] (fun a f i => ∃ k : Nat, k ≤ c.length ∧ i = .int .i64 (k : Int) ∧ a = .int .i64 (posK l k : Int) ∧ f = .int .i64 (fzK l k)) (fun _ _ i => c.length - (intOf i).toNat)
  case atStart => exact ⟨0, Nat.zero_le _, rfl, rfl, rfl⟩
  case round =>
    obtain ⟨k, hk, rfl, rfl, rfl⟩ := hrel
    have hfr := HFR.out k
    have b1 := hfr.1
    have b2 := hfr.2.1
    have b3 := hfr.2.2.1
    clear hfr
    by_cases hkl : k < c.length
    · obtain ⟨g, off, rfl, _, _, hcell⟩ := HR1.out.at_ A1 k1 rfl k (by omega)
      rw [nis_at l k (by rw [HML.out]; exact hkl)] at hcell
      have hkl2 : (k : Int) < (c.length : Int) := by omega
      have hp1 : posK l (k + 1) = if 0 < gN l k then posK l k + 1 else posK l k := rfl
      have hf1 : fzK l (k + 1) = if 0 < gN l k then fzK l k else if fzK l k < 0 then (k : Int) else fzK l k := rfl
      have HP1 := Lib.hid hp1
      have HF1 := Lib.hid hf1
      clear hp1 hf1
      by_cases hz : 0 < gN l k
      · have hz' : (0 : Int) < (gN l k : Int) := by omega
        go_wp2
        go_round
        case rel => exact ⟨k + 1, by omega, by go_num, by rw [HP1.out, if_pos hz]; go_num, by rw [HF1.out, if_pos hz]⟩
        case measure => simp [intOf]; omega
      · have hz' : ¬ (0 : Int) < (gN l k : Int) := by omega
        by_cases hf : fzK l k < 0
        · go_wp2
          go_round
          case rel => exact ⟨k + 1, by omega, by go_num, by rw [HP1.out, if_neg hz], by rw [HF1.out, if_neg hz, if_pos hf]⟩
          case measure => simp [intOf]; omega
        · go_wp2
          go_round
          case rel => exact ⟨k + 1, by omega, by go_num, by rw [HP1.out, if_neg hz], by rw [HF1.out, if_neg hz, if_neg hf]⟩
          case measure => simp [intOf]; omega
    · obtain rfl : k = c.length := by omega
      by_cases h1 : posK l c.length = 1
      · have hf0 : 0 ≤ fzK l c.length := by
          have := (HFR.out c.length).2.2.2
          omega
        obtain ⟨f, hff⟩ : ∃ f : Nat, fzK l c.length = (f : Int) := ⟨(fzK l c.length).toNat, by omega⟩
        rcases HO1.out.2 with ⟨he, _⟩ | ⟨g, cap, cur, he, hg, hgg, hn, hcm, hcs, hct⟩
        · exact absurd he hne
        · injection he with he1 he2 he3
          subst he1 he3
          clear hne hgg hcs hct
          have hcx := (HO1.out.cellAt f (by omega)).trans (nis_at l f (by rw [HML.out]; omega))
          have hfx := HO1.out.frozenAt f
          have hfl : (f : Int) < (c.length : Int) := by omega
          have h1b : ((posK l c.length : Int) == 1) = true := by simp; omega
          have H1 := Lib.hid h1
          have HFF := Lib.hid hff
          rw [hff]
          clear h1 hff b1 b2 hf0
          go_wp2
          go_returns
          refine ⟨_, rfl, ?_, HC1.out.setCell (p := ⟨g, f, none⟩) (Or.inr hg) _⟩
          rw [HD.out, if_pos H1.out, HFF.out, Int.toNat_natCast]
          have := (HO1.out.stored f (.int .i64 ((1 : Nat) : Int))).1
          rw [nis_set] at this
          exact this
      · have h1b : ((posK l c.length : Int) == 1) = false := by simp; omega
        go_wp2
        go_returns
        refine ⟨_, rfl, ?_, HC1.out⟩
        rw [HD.out, if_neg h1]
        exact HO1.out

set_option maxHeartbeats 6400000 in
set_option maxRecDepth 100000 in
theorem may_calls (kind : Nat) (s : ByteArray) (S : Nat → Prop) (v : Value) (l : List Tok) (w : World) (hk : kind ≤ 2) (hs : s.size ≤ 65535) (h : Row w S 27 3 v l.length (tks l)) (hl : ∀ t ∈ l, t.ok) (hll : l.length ≤ 65535) :
    Calls Tryd.prog 21 #[.int .i64 (kind : Int), .string s, v] w fun e w' => e = .returned (.bool true) ∧ Chg (fun _ => False) w w' := by
  have HCF := Lib.hid (containsFuncT_calls S v l w h hl)
  obtain ⟨A, c, rfl, hm, hA⟩ := h.form
  clear h hl hA
  have k1 : decide ((kind : Int) < 3) = true := by simp; omega
  have k2 : decide ((s.size : Int) ≤ 65535) = true := by simp; omega
  have k3 : decide ((l.length : Int) ≤ 65535) = true := by simp; omega
  go_enter Tryd.func21, Tryd.ntmps21
  go_wp2_with fail
  refine HCF.out.mono ?_
  rintro e w1 ⟨rfl, hc⟩
  have HC := Lib.hid hc
  clear hc
  go_wp2
  go_returns
  exact ⟨rfl, HC.out⟩
end Go.Proofs.YtakoidkeaccgeaaDoor

/- canon: fill. -/
namespace Go.Proofs.YtakoidkeaccgeaaDoor
open Go.RowKit Go.Shelf

/-- The cells of a code. -/
def codeCells (vl vw : Value) (c : List Nat) (vs : Value) : List Value := vl :: vw :: (nis c ++ [vs])
theorem codeCells_count (vl vw vs : Value) (c : List Nat) (hc : c.length = 16) (j : Nat) (hj : j < 16) : (codeCells vl vw c vs)[2 + j]? = some (.int .i64 (gN c j : Int)) := by
  unfold codeCells
  rw [show 2 + j = (j + 1) + 1 by omega, List.getElem?_cons_succ, List.getElem?_cons_succ, List.getElem?_append_left (by simp [nis, hc, hj])]
  exact nis_at c j (by omega)
theorem codeCells_set (vl vw vs : Value) (c : List Nat) (hc : c.length = 16) (j : Nat) (hj : j < 16) (x : Nat) : (codeCells vl vw c vs).set (2 + j) (.int .i64 (x : Int)) = codeCells vl vw (c.set j x) vs := by
  unfold codeCells
  rw [show 2 + j = (j + 1) + 1 by omega, List.set_cons_succ, List.set_cons_succ, List.set_append_left _ _ (by simp [nis, hc, hj]), nis_set]
/-- How often each length comes among the first k. -/
def cnts (l : List Nat) : Nat → List Nat
  | 0 => List.replicate 16 0
  | k + 1 => if 0 < gN l k then (cnts l k).set (gN l k) (gN (cnts l k) (gN l k) + 1) else cnts l k
theorem cnts_length (l : List Nat) : ∀ k, (cnts l k).length = 16
  | 0 => by simp [cnts]
  | k + 1 => by unfold cnts; split <;> simp [cnts_length l k]
theorem cnts_le (l : List Nat) : ∀ k j, gN (cnts l k) j ≤ k
  | 0, j => by
    by_cases h : j < 16
    · rw [cnts, gN_rep _ _ _ h]; omega
    · rw [gN_out _ _ (by simp [cnts]; omega)]; omega
  | k + 1, j => by
    have h1 := cnts_le l k (gN l k)
    have h2 := cnts_le l k j
    unfold cnts
    split
    · rw [gN_set]; split <;> omega
    · omega
/-- How many words are left behind length n. -/
def leftK (c : List Nat) : Nat → Int
  | 0 => 1
  | n + 1 => 2 * leftK c n - (gN c (n + 1) : Int)
theorem leftK_bound (c : List Nat) (hc : ∀ j, gN c j ≤ 288) : ∀ n, leftK c n ≤ ((2 ^ n : Nat) : Int) ∧ - ((288 * 2 ^ n : Nat) : Int) + 288 ≤ leftK c n
  | 0 => by simp [leftK]
  | n + 1 => by
    have h1 := leftK_bound c hc n
    have h2 := hc (n + 1)
    have e : 2 ^ (n + 1) = 2 * 2 ^ n := Nat.pow_succ' ..
    have hp := Nat.two_pow_pos n
    unfold leftK
    rw [e]
    generalize 2 ^ n = x at *
    omega
theorem leftK_neg (c : List Nat) (n : Nat) (h : leftK c n < 0) : ∀ m, leftK c (n + m) < 0
  | 0 => h
  | m + 1 => by
    have := leftK_neg c n h m
    show 2 * leftK c (n + m) - (gN c (n + m + 1) : Int) < 0
    omega
set_option maxHeartbeats 1600000 in
set_option maxRecDepth 100000 in
theorem fill_calls (cb : Nat) (S : Nat → Prop) (vl vw vs : Value) (l : List Nat) (w : World) (hb : Blk w cb (codeCells vl vw (List.replicate 16 0) vs) 108) (hr : Row w S 3 1 vl l.length (nis l)) (hS : ¬ S cb) (hl : ∀ n ∈ l, n ≤ 15) (hlen : l.length ≤ 288) :
    Calls Tryd.prog 60 #[.pointer (some ⟨cb, 0, none⟩)] w fun e w' => ∃ r : Int, e = .returned (.int .i64 r) ∧ (r < 0 ↔ leftK (cnts l l.length) 15 < 0) ∧ (0 ≤ r → r = leftK (cnts l l.length) 15) ∧
      Blk w' cb (codeCells vl vw (cnts l l.length) vs) 108 ∧ Chg (fun k => k = cb) w w' := by
  have c0 : w.cell? ⟨cb, 0, none⟩ = some vl := hb.cell 0
  obtain ⟨A, c, rfl, hm, hA⟩ := hr.form
  have HB := Lib.hid hb
  have HR := Lib.hid hr
  have HL := Lib.hid hl
  clear hb hr hl hA hm
  go_enter Tryd.func60, Tryd.ntmps60
  go_wp2
  go_loopw [12] (fun i W => ∃ k : Nat, k ≤ l.length ∧ i = .int .i64 (k : Int) ∧ Hid (Blk W cb (codeCells (.slice A l.length c) vw (cnts l k) vs) 108) ∧ Hid (Chg (fun k => k = cb) w W)) (fun i _ => l.length - (intOf i).toNat)
  case atStart => exact ⟨0, Nat.zero_le _, rfl, HB.out, Chg.refl _ _⟩
  case round =>
    obtain ⟨k, hk, rfl, HB', HC⟩ := hrel
    clear HB c0
    by_cases hlt : k < l.length
    · have hc := HB'.out
      obtain ⟨bg, off, rfl, hSb, hbl, hcell⟩ := (HR.out.chg HC.out (fun i hi _ he => hS (he ▸ hi))).at_ A c rfl k (by omega)
      rw [nis_at l k hlt] at hcell
      have hle := HL.out (gN l k) (gN_mem l k hlt)
      have hcl := cnts_length l k
      have hc1 := (hc.cell (2 + (gN l k))).trans (codeCells_count _ _ _ _ hcl (gN l k) (by omega))
      have hf1 := hc.frozen (2 + (gN l k))
      have hlt2 : (k : Int) < (l.length : Int) := by omega
      have hle2 : ((gN l k) : Int) < 16 := by omega
      have hcle := cnts_le l k (gN l k)
      have HCL := Lib.hid hcl
      clear hcl hc
      by_cases hz : 0 < (gN l k)
      · have hz2 : (0 : Int) < ((gN l k) : Int) := by omega
        go_wp2
        go_region
        go_wp2
        go_roundw
        case rel =>
          refine ⟨k + 1, by omega, by go_num, ?_, ?_⟩
          · have e : cnts l (k + 1) = (cnts l k).set (gN l k) (gN (cnts l k) (gN l k) + 1) := if_pos hz
            show Blk _ _ _ _
            rw [e, ← codeCells_set _ _ _ _ HCL.out _ (by omega)]
            have hq := HB'.out.set (2 + gN l k) (.int .i64 ((gN (cnts l k) (gN l k) + 1 : Nat) : Int))
            rw [show ((gN (cnts l k) (gN l k) + 1 : Nat) : Int) = (gN (cnts l k) (gN l k) : Int) + 1 by omega] at hq ⊢
            exact hq
          · exact (HC.out.setCell (p := ⟨cb, 2 + gN l k, none⟩) (Or.inl rfl) _).drew
        case measure => simp [intOf]; omega
      · have hz2 : gN l k = 0 := by omega
        have HZ := Lib.hid hz2
        have hz3 : ¬ (0 : Int) < (gN l k : Int) := by omega
        clear hz2
        go_wp2
        go_roundw
        case rel =>
          refine ⟨k + 1, by omega, by go_num, ?_, HC.out⟩
          have e : cnts l (k + 1) = cnts l k := if_neg hz
          show Blk _ _ _ _
          rw [e]
          exact HB'.out
        case measure => simp [intOf]; omega
    · obtain rfl : k = l.length := by omega
      have hcl := cnts_length l l.length
      have hlb := leftK_bound (cnts l l.length) (fun j => Nat.le_trans (cnts_le l _ j) hlen)
      have HCL := Lib.hid hcl
      have HLB := Lib.hid hlb
      clear hcl hlb
      generalize hcs : cnts l l.length = cs at *
      go_wp2
      go_loop [5, 6] (fun a i => ∃ k : Nat, 1 ≤ k ∧ k ≤ 16 ∧ i = .int .i64 (k : Int) ∧ a = .int .i64 (leftK cs (k - 1)) ∧ Hid (0 ≤ leftK cs (k - 1))) (fun _ i => 16 - (intOf i).toNat)
      case atStart => exact ⟨1, by omega, by omega, rfl, rfl, by show (0 : Int) ≤ 1; omega⟩
      case round =>
        obtain ⟨k, hk1, hk2, rfl, rfl, H0⟩ := hrel
        by_cases hlt : k < 16
        · have hc1 := (HB'.out.cell (2 + k)).trans (codeCells_count _ _ _ _ HCL.out k hlt)
          have hlt2 : (k : Int) ≤ 15 := by omega
          have hstep : leftK cs k = 2 * leftK cs (k - 1) - (gN cs k : Int) := by
            obtain ⟨m, rfl⟩ : ∃ m, k = m + 1 := ⟨k - 1, by omega⟩
            rfl
          have hb1 := HLB.out k
          have hb2 := HLB.out (k - 1)
          have hp1 : 2 ^ k ≤ 2 ^ 15 := Nat.pow_le_pow_right (by decide) (by omega)
          have hp2 : 2 ^ (k - 1) ≤ 2 ^ 15 := Nat.pow_le_pow_right (by decide) (by omega)
          have HST := Lib.hid hstep
          have g1 : -9437184 ≤ leftK cs (k - 1) ∧ leftK cs (k - 1) ≤ 9437184 := by omega
          have g2 : -9437184 ≤ leftK cs k ∧ leftK cs k ≤ 9437184 := by omega
          have g3 : -9437184 ≤ 2 * leftK cs (k - 1) - (gN cs k : Int) ∧ 2 * leftK cs (k - 1) - (gN cs k : Int) ≤ 9437184 := by omega
          have g4 : (gN cs k : Int) ≤ 18874368 := by omega
          clear hstep hb1 hb2 hp1 hp2
          by_cases hneg : leftK cs k < 0
          · have hneg2 : 2 * leftK cs (k - 1) - (gN cs k : Int) < 0 := by have := HST.out; omega
            go_wp2
            go_returns
            refine ⟨_, rfl, ⟨fun _ => ?_, fun _ => ?_⟩, fun h => ?_, HB'.out, HC.out⟩
            · have := leftK_neg cs k hneg (15 - k)
              rwa [show k + (15 - k) = 15 by omega] at this
            · exact hneg2
            · omega
          · have hneg2 : ¬ 2 * leftK cs (k - 1) - (gN cs k : Int) < 0 := by have := HST.out; omega
            go_wp2
            go_round
            case rel => exact ⟨k + 1, by omega, by omega, by go_num, by rw [Nat.add_sub_cancel, HST.out], by show (0 : Int) ≤ leftK cs (k + 1 - 1); rw [Nat.add_sub_cancel]; omega⟩
            case measure => simp [intOf]; omega
        · obtain rfl : k = 16 := by omega
          have h0 := H0.out
          have H00 := Lib.hid h0
          go_wp2
          go_returns
          refine ⟨_, rfl, Iff.rfl, fun _ => rfl, HB'.out, HC.out⟩
end Go.Proofs.YtakoidkeaccgeaaDoor

/- canon: slack. -/
namespace Go.Proofs.YtakoidkeaccgeaaDoor
open Go.RowKit Go.Shelf

theorem index16 (a0 a1 a2 a3 a4 a5 a6 a7 a8 a9 a10 a11 a12 a13 a14 a15 k : Nat) (hk : k < 16) (w : World) : (Instr.index 106 (.agg #[.int .i64 (a0 : Int), .int .i64 (a1 : Int), .int .i64 (a2 : Int), .int .i64 (a3 : Int), .int .i64 (a4 : Int), .int .i64 (a5 : Int), .int .i64 (a6 : Int), .int .i64 (a7 : Int), .int .i64 (a8 : Int), .int .i64 (a9 : Int), .int .i64 (a10 : Int), .int .i64 (a11 : Int), .int .i64 (a12 : Int), .int .i64 (a13 : Int), .int .i64 (a14 : Int), .int .i64 (a15 : Int)]) (.int .i64 (k : Int))).run Tryd.prog w = .ok (.int .i64 (gN [a0, a1, a2, a3, a4, a5, a6, a7, a8, a9, a10, a11, a12, a13, a14, a15] k : Int)) w :=
  match k, hk with
  | 0, _ => by kernel_rfl
  | 1, _ => by kernel_rfl
  | 2, _ => by kernel_rfl
  | 3, _ => by kernel_rfl
  | 4, _ => by kernel_rfl
  | 5, _ => by kernel_rfl
  | 6, _ => by kernel_rfl
  | 7, _ => by kernel_rfl
  | 8, _ => by kernel_rfl
  | 9, _ => by kernel_rfl
  | 10, _ => by kernel_rfl
  | 11, _ => by kernel_rfl
  | 12, _ => by kernel_rfl
  | 13, _ => by kernel_rfl
  | 14, _ => by kernel_rfl
  | 15, _ => by kernel_rfl
  | n + 16, h => absurd h (by omega)
def sumTo (c : List Nat) : Nat → Nat
  | 0 => 0
  | k + 1 => sumTo c k + gN c k
theorem sumTo_le (c : List Nat) (h : ∀ j, gN c j ≤ 288) : ∀ k, sumTo c k ≤ 288 * k
  | 0 => Nat.le_refl _
  | k + 1 => by have := sumTo_le c h k; have := h k; simp only [sumTo]; omega
def slackB (c : List Nat) : Bool := decide (sumTo c 16 = 0) || (decide (sumTo c 16 = 1) && decide (gN c 1 = 1))
set_option maxHeartbeats 3200000 in
set_option maxRecDepth 100000 in
theorem slack_calls (cb : Nat) (vl vw vs : Value) (c : List Nat) (w : World) (hb : Blk w cb (codeCells vl vw c vs) 108) (hc : c.length = 16) (hle : ∀ j, gN c j ≤ 288) :
    Calls Tryd.prog 61 #[.pointer (some ⟨cb, 0, none⟩)] w fun e w' => e = .returned (.bool (slackB c)) ∧ w' = w := by
  match c, hc with
  | [a0, a1, a2, a3, a4, a5, a6, a7, a8, a9, a10, a11, a12, a13, a14, a15], _ =>
  have c2 : w.cell? ⟨cb, 2, none⟩ = some (.int .i64 (a0 : Int)) := hb.cell 2
  have c3 : w.cell? ⟨cb, 3, none⟩ = some (.int .i64 (a1 : Int)) := hb.cell 3
  have c4 : w.cell? ⟨cb, 4, none⟩ = some (.int .i64 (a2 : Int)) := hb.cell 4
  have c5 : w.cell? ⟨cb, 5, none⟩ = some (.int .i64 (a3 : Int)) := hb.cell 5
  have c6 : w.cell? ⟨cb, 6, none⟩ = some (.int .i64 (a4 : Int)) := hb.cell 6
  have c7 : w.cell? ⟨cb, 7, none⟩ = some (.int .i64 (a5 : Int)) := hb.cell 7
  have c8 : w.cell? ⟨cb, 8, none⟩ = some (.int .i64 (a6 : Int)) := hb.cell 8
  have c9 : w.cell? ⟨cb, 9, none⟩ = some (.int .i64 (a7 : Int)) := hb.cell 9
  have c10 : w.cell? ⟨cb, 10, none⟩ = some (.int .i64 (a8 : Int)) := hb.cell 10
  have c11 : w.cell? ⟨cb, 11, none⟩ = some (.int .i64 (a9 : Int)) := hb.cell 11
  have c12 : w.cell? ⟨cb, 12, none⟩ = some (.int .i64 (a10 : Int)) := hb.cell 12
  have c13 : w.cell? ⟨cb, 13, none⟩ = some (.int .i64 (a11 : Int)) := hb.cell 13
  have c14 : w.cell? ⟨cb, 14, none⟩ = some (.int .i64 (a12 : Int)) := hb.cell 14
  have c15 : w.cell? ⟨cb, 15, none⟩ = some (.int .i64 (a13 : Int)) := hb.cell 15
  have c16 : w.cell? ⟨cb, 16, none⟩ = some (.int .i64 (a14 : Int)) := hb.cell 16
  have c17 : w.cell? ⟨cb, 17, none⟩ = some (.int .i64 (a15 : Int)) := hb.cell 17
  have HB := Lib.hid hb
  have HLE := Lib.hid hle
  have g0 : a0 ≤ 288 := hle 0
  have g1 : a1 ≤ 288 := hle 1
  have g2 : a2 ≤ 288 := hle 2
  have g3 : a3 ≤ 288 := hle 3
  have g4 : a4 ≤ 288 := hle 4
  have g5 : a5 ≤ 288 := hle 5
  have g6 : a6 ≤ 288 := hle 6
  have g7 : a7 ≤ 288 := hle 7
  have g8 : a8 ≤ 288 := hle 8
  have g9 : a9 ≤ 288 := hle 9
  have g10 : a10 ≤ 288 := hle 10
  have g11 : a11 ≤ 288 := hle 11
  have g12 : a12 ≤ 288 := hle 12
  have g13 : a13 ≤ 288 := hle 13
  have g14 : a14 ≤ 288 := hle 14
  have g15 : a15 ≤ 288 := hle 15
  clear hb hle
  go_enter Tryd.func61, Tryd.ntmps61
  go_wp2
  have hi := fun k hk w => index16 a0 a1 a2 a3 a4 a5 a6 a7 a8 a9 a10 a11 a12 a13 a14 a15 k hk w
  have hsl := sumTo_le [a0, a1, a2, a3, a4, a5, a6, a7, a8, a9, a10, a11, a12, a13, a14, a15] HLE.out
  have HI := Lib.hid hi
  have HSL := Lib.hid hsl
  have hcc : ∀ j, gN [a0, a1, a2, a3, a4, a5, a6, a7, a8, a9, a10, a11, a12, a13, a14, a15] j ≤ 288 := HLE.out
  have HCC := Lib.hid hcc
  clear hi hsl hcc c2 c4 c5 c6 c7 c8 c9 c10 c11 c12 c13 c14 c15 c16 c17
  have hdef : slackB [a0, a1, a2, a3, a4, a5, a6, a7, a8, a9, a10, a11, a12, a13, a14, a15] = slackB [a0, a1, a2, a3, a4, a5, a6, a7, a8, a9, a10, a11, a12, a13, a14, a15] := rfl
  generalize hcs : [a0, a1, a2, a3, a4, a5, a6, a7, a8, a9, a10, a11, a12, a13, a14, a15] = cs at HI HSL HCC ⊢
  have g1' : gN cs 1 = a1 := by rw [← hcs]; rfl
  have HG1 := Lib.hid g1'
  have HCS := Lib.hid hcs
  clear hdef hcs g1' g0 g2 g3 g4 g5 g6 g7 g8 g9 g10 g11 g12 g13 g14 g15
  go_loop [3, 10] (fun s i => ∃ k : Nat, k ≤ 16 ∧ i = .int .i64 (k : Int) ∧ s = .int .i64 (sumTo cs k : Int)) (fun _ i => 16 - (intOf i).toNat)
  case atStart => exact ⟨0, by omega, rfl, rfl⟩
  case round =>
    obtain ⟨k, hk, rfl, rfl⟩ := hrel
    by_cases hlt : k < 16
    · have hi := HI.out k hlt
      have hlt2 : (k : Int) < 16 := by omega
      have hs := HSL.out k
      have hg := HCC.out k
      go_wp2
      go_round
      case rel => exact ⟨k + 1, by omega, by go_num, by simp [sumTo]⟩
      case measure => simp [intOf]; omega
    · obtain rfl : k = 16 := by omega
      by_cases h0 : sumTo cs 16 = 0
      · have e0 : ((sumTo cs 16 : Int) == 0) = true := by simp; omega
        have hs : slackB cs = true := by simp [slackB, h0]
        have HS := Lib.hid hs
        have H0 := Lib.hid h0
        clear hs h0
        go_wp2
        go_returns
        exact ⟨ret_bool (by rw [HCS.out, HS.out]), rfl⟩
      · by_cases h1 : sumTo cs 16 = 1
        · have e0 : ((sumTo cs 16 : Int) == 0) = false := by simp; omega
          have e1 : ((sumTo cs 16 : Int) == 1) = true := by simp; omega
          have hs : slackB cs = ((a1 : Int) == 1) := by rw [Bool.eq_iff_iff]; simp [slackB, h1, HG1.out]; omega
          have HS := Lib.hid hs
          have H1 := Lib.hid h1
          clear hs h0 h1
          go_wp2
          go_returns
          exact ⟨ret_bool (by rw [HCS.out, HS.out]), rfl⟩
        · have e0 : ((sumTo cs 16 : Int) == 0) = false := by simp; omega
          have e1 : ((sumTo cs 16 : Int) == 1) = false := by simp; omega
          have hs : slackB cs = false := by simp [slackB, h0, h1]
          have HS := Lib.hid hs
          clear hs h0 h1
          go_wp2
          go_returns
          exact ⟨ret_bool (by rw [HCS.out, HS.out]), rfl⟩
end Go.Proofs.YtakoidkeaccgeaaDoor
