/- Laws: the append of a row; the append of zeros to nil. -/
import Derived.Test.YtakoidkeaccgeaaDoorJ4
import Derived.Lib.AppendZerosOnto
namespace Go.Proofs.YtakoidkeaccgeaaDoor
open Go.RowKit

theorem own_lower {w : World} {base base' : Nat} {e : TypeId} {size n : Nat} {v : Value} {xs : List Value} (h : w.ownsRow base e size v n xs) (hb : base' ≤ base) : w.ownsRow base' e size v n xs := by
  obtain ⟨h1, h2⟩ := h
  refine ⟨h1, ?_⟩
  rcases h2 with h2 | ⟨g, cap, cur, rfl, hg, r⟩
  · exact .inl h2
  · exact .inr ⟨g, cap, cur, rfl, Nat.le_trans hb hg, r⟩
section
variable {P : Program} (w : World)
/-- Every cell of a row is one cell. -/
def OneC (xs : List Value) : Prop := ∀ u ∈ xs, u.oneCell' = true
theorem wpList_append_row {ops : Array Oper} {rest : List Oper} {o : Oper} {a : Act} {Q : Exit → Act → World → Prop} (hgd : o.guard = none) (s x : Operand) (t : TypeId)
    (ho : o.op = .call { callee := .builtin .append, args := #[s, x], argTypes := #[t, t] })
    (base : Nat) (e : TypeId) (i : TypeInfo) (z : Value) (size bytes : Nat) (ht : P.underlying t = some (.slice e)) (hi : P.info? e = some i) (hz : i.zero = some z)
    (hsize : i.size = size) (hby : i.bytes = bytes) (hzs : z.cells.size = size) (hsz : 0 < size)
    (v : Value) (n : Nat) (xs : List Value) (hs : a.eval s = v) (hown : w.ownsRow base e size v n xs)
    (S : Nat → Prop) (sv : Value) (m : Nat) (news : List Value) (hx : a.eval x = sv) (hr : Row w S e size sv m news) (h1 : OneC news)
    (h63 : n + m ≤ maxLen) (hbytes : (n + m) * bytes ≤ 140737488355328) (hbase : base ≤ w.heap.size)
    (h : ∀ v' w', w'.ownsRow base e size v' (n + m) (xs ++ news) → w.grownBy w' v.ownBlock → (∀ k, v'.ownBlock = some k → v.ownBlock = some k ∨ k = w.heap.size) → wpList P ops Q rest (a.put o.dst v') w') :
    wpList P ops Q (o :: rest) a w := by
  refine wpList_plain hgd fun K hK => ?_
  have key : ∃ v' w', (Builtin.append_ #[t, t] o.type #[v, sv]).run P w = .ok v' w' ∧ w'.ownsRow base e size v' (n + m) (xs ++ news) ∧ w.grownBy w' v.ownBlock ∧ (∀ k, v'.ownBlock = some k → v.ownBlock = some k ∨ k = w.heap.size) := by
    rcases hr.2 with ⟨rfl, h0⟩ | ⟨g, off, cap, cur, rfl, hS, hg, hn, hc, hs2, ht2⟩
    · have hnews : news = [] := List.eq_nil_of_length_eq_zero (by rw [hr.1, h0]; simp)
      refine ⟨v, w, run_append_owned_none w base t o.type e i size ht hi v n xs hown, ?_, ⟨rfl, rfl, rfl, Nat.le_refl _, fun _ _ _ => rfl⟩, fun k hk => Or.inl hk⟩
      rw [hnews, List.append_nil, h0, Nat.add_zero]
      exact hown
    · obtain ⟨v', w', q1, q2, q3, _, q5⟩ := run_append_own_at (P := P) w base t o.type e i z size bytes ht hi hz hsize hby hzs hsz v n xs hown ⟨g, off, none⟩ m cap news hr.1 (fun j u hu => by
        have hj : j < m * size := by rw [← hr.1]; exact (List.getElem?_eq_some_iff.1 hu).1
        have ha : (⟨g, off, none⟩ : Addr).add j = ⟨g, off + j, none⟩ := by unfold Addr.add; split <;> simp_all
        rw [ha, hr.cell j hj]; exact hu) h1 h63 hbytes hbase
      refine ⟨v', w', q1, q2, q3, fun k hk => ?_⟩
      rcases q5 with q5 | q5
      · exact Or.inl (q5 ▸ hk)
      · rw [q5] at hk; exact Or.inr (by simpa using hk.symm)
  obtain ⟨v', w', hrr, h2, h3, h4⟩ := key
  unfold Oper.wp execOp
  simp only [ho, resolve, invoke, builtin, Sem.run_bind, Sem.run_pure, Result.andThen_ok, List.map_toArray, List.map_cons, List.map_nil, hs, hx, hrr]
  exact hK _ _ (h v' w' h2 h3 h4)
/-- n zeros behind nil. -/
theorem run_append_zeros_nil (t tn ty e : TypeId) (i : TypeInfo) (z : Value) (size : Nat) (ht : P.underlying t = some (.slice e)) (htn : P.underlying tn = some (.int .i64)) (hi : P.info? e = some i) (hz : i.zero = some z) (hsize : i.size = size) (hzs : z.cells.size = size) (hsz : 0 < size)
    (k : Nat) (h0 : 0 < k) (h48 : k * i.bytes ≤ 140737488355328) (hk : k ≤ 1000000000) :
    ∃ c w', (Builtin.append_ #[t, tn] ty #[.slice none 0 0, .int .i64 (k : Int)]).run P w = .ok (.slice (some ⟨w.heap.size, 0, none⟩) k c) w' ∧ k ≤ c ∧ c ≤ maxLen ∧ w.heap.size < w'.heap.size ∧
      w'.ownsRow w.heap.size e size (.slice (some ⟨w.heap.size, 0, none⟩) 0 c) 0 [] ∧ Chg (fun _ => False) w w' := by
  subst hsize
  have hr := Lib.run_append_grow_zeros w t tn ty e i z .i64 .i64 ht htn hi hz none 0 0 [] (run_firstCells_none w.drew i.size 0 0 0) k h0 hsz (by omega) (by omega) (by omega) (growslice_fits (by omega) (by simpa using h48))
  rw [Nat.zero_add] at hr
  have hge := grownCap_ge w k 0 e
  have hle := grownCap_le_maxLen w k 0 e (by unfold maxLen; omega)
  refine ⟨_, _, hr, hge, hle, by simp, ⟨by simp, .inr ⟨w.heap.size, _, _, rfl, Nat.le_refl _, heap_alloc_new w.drew _, Nat.zero_le _, hle, ?_, by simp⟩⟩, (Chg.refl _ _).drew.alloc _⟩
  simp only [Array.size_append, List.size_toArray, List.length_nil, size_zeroCells, hzs, Nat.zero_add]
  rw [← Nat.add_mul]
  congr 1
  omega
theorem wpList_append_zeros_nil {ops : Array Oper} {rest : List Oper} {o : Oper} {a : Act} {Q : Exit → Act → World → Prop} (hgd : o.guard = none) (s x : Operand) (t tn : TypeId)
    (ho : o.op = .call { callee := .builtin .append, args := #[s, x], argTypes := #[t, tn] })
    (e : TypeId) (i : TypeInfo) (z : Value) (size : Nat) (ht : P.underlying t = some (.slice e)) (htn : P.underlying tn = some (.int .i64)) (hi : P.info? e = some i) (hz : i.zero = some z) (hsize : i.size = size) (hzs : z.cells.size = size) (hsz : 0 < size)
    (k : Nat) (hs : a.eval s = .slice none 0 0) (hx : a.eval x = .int .i64 (k : Int)) (h0 : 0 < k) (h48 : k * i.bytes ≤ 140737488355328) (hk : k ≤ 1000000000)
    (h : ∀ c w', k ≤ c → c ≤ maxLen → w.heap.size < w'.heap.size → w'.ownsRow w.heap.size e size (.slice (some ⟨w.heap.size, 0, none⟩) 0 c) 0 [] → Chg (fun _ => False) w w' → wpList P ops Q rest (a.put o.dst (.slice (some ⟨w.heap.size, 0, none⟩) k c)) w') :
    wpList P ops Q (o :: rest) a w := by
  refine wpList_plain hgd fun K hK => ?_
  obtain ⟨c, w', hr, q1, q2, q3, q4, q5⟩ := run_append_zeros_nil (P := P) w t tn o.type e i z size ht htn hi hz hsize hzs hsz k h0 h48 hk
  unfold Oper.wp execOp
  simp only [ho, resolve, invoke, builtin, Sem.run_bind, Sem.run_pure, Result.andThen_ok, List.map_toArray, List.map_cons, List.map_nil, hs, hx, hr]
  exact hK _ _ (h c w' q1 q2 q3 q4 q5)
end
end Go.Proofs.YtakoidkeaccgeaaDoor

/- slices.Grow (at nil) and slices.Concat. -/
namespace Go.Proofs.YtakoidkeaccgeaaDoor
open Go.RowKit Go.Shelf

def sumL (l : List (Value × Nat × List Value)) : Nat → Nat
  | 0 => 0
  | k + 1 => sumL l k + (match l[k]? with | some r => r.2.1 | none => 0)
def catL (l : List (Value × Nat × List Value)) : Nat → List Value
  | 0 => []
  | k + 1 => catL l k ++ (match l[k]? with | some r => r.2.2 | none => [])
theorem sumL_mono (l : List (Value × Nat × List Value)) : ∀ a b, a ≤ b → sumL l a ≤ sumL l b := by
  intro a b h
  induction b with
  | zero => obtain rfl : a = 0 := by omega
            exact Nat.le_refl _
  | succ b ih =>
    by_cases e : a = b + 1
    · rw [e]; exact Nat.le_refl _
    · have := ih (by omega)
      simp only [sumL]; omega
theorem infoPack : (Tryd.prog.info? 116).map (fun i => (i.zero, i.size, i.bytes)) = some (some (.agg #[.int .i64 0, .slice none 0 0]), 2, 32) := by kernel_rfl

set_option maxHeartbeats 3200000 in
set_option maxRecDepth 100000 in
theorem growI_calls (n : Nat) (w : World) (hn : n ≤ 100000000) :
    Calls Tryd.prog 71 #[.slice none 0 0, .int .i64 (n : Int)] w fun e w' => ∃ v', e = .returned v' ∧ w'.ownsRow w.heap.size 3 1 v' 0 [] ∧ Chg (fun _ => False) w w' := by
  obtain ⟨ie, hie, hi0, hi1, hi2⟩ := info_parts infoInt
  by_cases h0 : 0 < n
  · have h0' : (0 : Int) < (n : Int) := by omega
    have hbb : n * ie.bytes ≤ 140737488355328 := by rw [hi2]; omega
    have HBB := Lib.hid hbb
    clear hbb
    go_enter Tryd.func71, Tryd.ntmps71
    go_wp2_with (at_builtin; go_loud (refine wpList_append_zeros_nil _ rfl (.tmp 20) (.tmp 21) 22 3 rfl 3 ie _ 1 Tryd.underlying22 Tryd.underlying3 hie hi0 hi1 rfl (by omega) n rfl rfl h0 HBB.out (by omega) ?_); intro c w1 hnc hcm hlt hown hch; have hnc' : (n : Int) ≤ (c : Int) := by omega)
    go_returns
    exact ⟨_, rfl, hown, hch⟩
  · obtain rfl : n = 0 := by omega
    go_enter Tryd.func71, Tryd.ntmps71
    go_wp2
    go_returns
    exact ⟨_, rfl, own_nil _ _ _ _, Chg.refl _ _⟩

/-- Rows that are joined. -/
def RowsI (w : World) (S : Nat → Prop) (l : List (Value × Nat × List Value)) : Prop := ∀ r ∈ l, Row w S 3 1 r.1 r.2.1 r.2.2 ∧ OneC r.2.2
set_option maxHeartbeats 3200000 in
set_option maxRecDepth 100000 in
theorem concatI_calls (S : Nat → Prop) (v : Value) (l : List (Value × Nat × List Value)) (w : World) (hr : Row w S 22 1 v l.length (l.map (·.1))) (hl : RowsI w S l) (hsum : sumL l l.length ≤ 1000000) (hlen : l.length ≤ 1000) :
    Calls Tryd.prog 48 #[v] w fun e w' => ∃ v', e = .returned v' ∧ w'.ownsRow w.heap.size 3 1 v' (sumL l l.length) (catL l l.length) ∧ Chg (fun _ => False) w w' := by
  obtain ⟨A, c, rfl, hm, hA⟩ := hr.form
  obtain ⟨ie, hie, hi0, hi1, hi2⟩ := info_parts infoInt
  have HR := Lib.hid hr
  have HL := Lib.hid hl
  have hmono := sumL_mono l
  have HMO := Lib.hid hmono
  clear hA hr hl hmono
  unfold maxLen at hm
  go_enter Tryd.func48, Tryd.ntmps48
  go_wp2
  go_loop [3, 11] (fun s i => ∃ k : Nat, k ≤ l.length ∧ i = .int .i64 (k : Int) ∧ s = .int .i64 (sumL l k : Int)) (fun _ i => l.length - (intOf i).toNat)
  case atStart => exact ⟨0, Nat.zero_le _, rfl, rfl⟩
  case round =>
    obtain ⟨k, hk, rfl, rfl⟩ := hrel
    by_cases hlt : k < l.length
    · obtain ⟨g, off, rfl, _, _, hcell⟩ := HR.out.at_ A c rfl k (by omega)
      rw [List.getElem?_map, List.getElem?_eq_getElem hlt, Option.map_some] at hcell
      have hrow := (HL.out l[k] (List.getElem_mem hlt)).1
      have hst : sumL l (k + 1) = sumL l k + (l[k]).2.1 := by simp [sumL, hlt]
      have hle := HMO.out (k + 1) l.length hlt
      have HST := Lib.hid hst
      have hb : sumL l k + (l[k]).2.1 ≤ 1000000 := by omega
      generalize l[k] = r at *
      obtain ⟨A1, c1, he, hm1, _⟩ := hrow.form
      rw [he] at hcell
      have hlt2 : (k : Int) < (l.length : Int) := by omega
      clear he hrow hst hle hm1
      go_wp2
      go_round
      case rel => exact ⟨k + 1, by omega, by go_num, by rw [HST.out]; simp⟩
      case measure => simp [intOf]; omega
    · obtain rfl : k = l.length := by omega
      go_wp2_with fail
      refine (growI_calls (sumL l l.length) w (by omega)).mono ?_
      rintro e w1 ⟨v1, rfl, ho1, hc1⟩
      obtain ⟨A1, c1, rfl⟩ := own_slice ho1
      have HO1 := Lib.hid ho1
      have HC1 := Lib.hid hc1
      clear ho1 hc1
      go_wp2
      go_loopw [6, 27] (fun o i W => ∃ k : Nat, k ≤ l.length ∧ i = .int .i64 (k : Int) ∧ Hid (W.ownsRow w.heap.size 3 1 o (sumL l k) (catL l k)) ∧ Hid (Chg (fun _ => False) w W)) (fun _ i _ => l.length - (intOf i).toNat)
      case atStart => exact ⟨0, Nat.zero_le _, rfl, HO1.out, HC1.out⟩
      case round =>
        clear HO1 HC1
        obtain ⟨k, hk, rfl, HO, HC⟩ := hrel
        by_cases hlt : k < l.length
        · obtain ⟨g, off, rfl, _, _, hcell⟩ := (HR.out.chg HC.out (fun _ _ _ h => h)).at_ A c rfl k (by omega)
          rw [List.getElem?_map, List.getElem?_eq_getElem hlt, Option.map_some] at hcell
          have hrow := (HL.out l[k] (List.getElem_mem hlt)).1.chg HC.out (fun _ _ _ h => h)
          have hone := (HL.out l[k] (List.getElem_mem hlt)).2
          have hst : sumL l (k + 1) = sumL l k + (l[k]).2.1 := by simp [sumL, hlt]
          have hct : catL l (k + 1) = catL l k ++ (l[k]).2.2 := by simp [catL, hlt]
          have hle := HMO.out (k + 1) l.length hlt
          have HST := Lib.hid hst
          have HCT := Lib.hid hct
          have hb : sumL l k + (l[k]).2.1 ≤ 1000000 := by omega
          generalize l[k] = r at *
          obtain ⟨A1, c2, he, hm1, _⟩ := hrow.form
          rw [he] at hcell hrow
          have hlt2 : (k : Int) < (l.length : Int) := by omega
          have HRW := Lib.hid hrow
          have HON := Lib.hid hone
          have hsz := HC.out.size
          clear he hrow hst hle hm1 hct hone
          go_wp2_with (at_builtin; go_loud (refine wpList_append_row _ rfl (.tmp 31) (.tmp 32) 22 rfl w.heap.size 3 ie _ 1 8 Tryd.underlying22 hie hi0 hi1 hi2 rfl (by omega) _ (sumL l k) (catL l k) rfl HO.out S _ r.2.1 r.2.2 rfl HRW.out HON.out (by unfold maxLen; omega) (by omega) (by omega) ?_); intro v2 w2 hown2 hgrow hat)
          go_roundw
          case rel => exact ⟨k + 1, by omega, by go_num, by rw [HST.out, HCT.out]; exact hown2, HC.out.grown hgrow (fun i hi => Or.inr (own_base HO.out i hi))⟩
          case measure => simp [intOf]; omega
        · obtain rfl : k = l.length := by omega
          go_wp2
          go_returns
          exact ⟨_, rfl, HO.out, HC.out⟩

set_option maxHeartbeats 3200000 in
set_option maxRecDepth 100000 in
theorem growP_calls (n : Nat) (w : World) (hn : n ≤ 100000000) :
    Calls Tryd.prog 97 #[.slice none 0 0, .int .i64 (n : Int)] w fun e w' => ∃ v', e = .returned v' ∧ w'.ownsRow w.heap.size 116 2 v' 0 [] ∧ Chg (fun _ => False) w w' := by
  obtain ⟨ie, hie, hi0, hi1, hi2⟩ := info_parts infoPack
  by_cases h0 : 0 < n
  · have h0' : (0 : Int) < (n : Int) := by omega
    have hbb : n * ie.bytes ≤ 140737488355328 := by rw [hi2]; omega
    have HBB := Lib.hid hbb
    clear hbb
    go_enter Tryd.func97, Tryd.ntmps97
    go_wp2_with (at_builtin; go_loud (refine wpList_append_zeros_nil _ rfl (.tmp 20) (.tmp 21) 114 3 rfl 116 ie _ 2 Tryd.underlying114 Tryd.underlying3 hie hi0 hi1 rfl (by omega) n rfl rfl h0 HBB.out (by omega) ?_); intro c w1 hnc hcm hlt hown hch; have hnc' : (n : Int) ≤ (c : Int) := by omega)
    go_returns
    exact ⟨_, rfl, hown, hch⟩
  · obtain rfl : n = 0 := by omega
    go_enter Tryd.func97, Tryd.ntmps97
    go_wp2
    go_returns
    exact ⟨_, rfl, own_nil _ _ _ _, Chg.refl _ _⟩

/-- Rows that are joined. -/
def RowsP (w : World) (S : Nat → Prop) (l : List (Value × Nat × List Value)) : Prop := ∀ r ∈ l, Row w S 116 2 r.1 r.2.1 r.2.2 ∧ OneC r.2.2
set_option maxHeartbeats 3200000 in
set_option maxRecDepth 100000 in
theorem concatP_calls (S : Nat → Prop) (v : Value) (l : List (Value × Nat × List Value)) (w : World) (hr : Row w S 114 1 v l.length (l.map (·.1))) (hl : RowsP w S l) (hsum : sumL l l.length ≤ 1000000) (hlen : l.length ≤ 1000) :
    Calls Tryd.prog 88 #[v] w fun e w' => ∃ v', e = .returned v' ∧ w'.ownsRow w.heap.size 116 2 v' (sumL l l.length) (catL l l.length) ∧ Chg (fun _ => False) w w' := by
  obtain ⟨A, c, rfl, hm, hA⟩ := hr.form
  obtain ⟨ie, hie, hi0, hi1, hi2⟩ := info_parts infoPack
  have HR := Lib.hid hr
  have HL := Lib.hid hl
  have hmono := sumL_mono l
  have HMO := Lib.hid hmono
  clear hA hr hl hmono
  unfold maxLen at hm
  go_enter Tryd.func88, Tryd.ntmps88
  go_wp2
  go_loop [3, 11] (fun s i => ∃ k : Nat, k ≤ l.length ∧ i = .int .i64 (k : Int) ∧ s = .int .i64 (sumL l k : Int)) (fun _ i => l.length - (intOf i).toNat)
  case atStart => exact ⟨0, Nat.zero_le _, rfl, rfl⟩
  case round =>
    obtain ⟨k, hk, rfl, rfl⟩ := hrel
    by_cases hlt : k < l.length
    · obtain ⟨g, off, rfl, _, _, hcell⟩ := HR.out.at_ A c rfl k (by omega)
      rw [List.getElem?_map, List.getElem?_eq_getElem hlt, Option.map_some] at hcell
      have hrow := (HL.out l[k] (List.getElem_mem hlt)).1
      have hst : sumL l (k + 1) = sumL l k + (l[k]).2.1 := by simp [sumL, hlt]
      have hle := HMO.out (k + 1) l.length hlt
      have HST := Lib.hid hst
      have hb : sumL l k + (l[k]).2.1 ≤ 1000000 := by omega
      generalize l[k] = r at *
      obtain ⟨A1, c1, he, hm1, _⟩ := hrow.form
      rw [he] at hcell
      have hlt2 : (k : Int) < (l.length : Int) := by omega
      clear he hrow hst hle hm1
      go_wp2
      go_round
      case rel => exact ⟨k + 1, by omega, by go_num, by rw [HST.out]; simp⟩
      case measure => simp [intOf]; omega
    · obtain rfl : k = l.length := by omega
      go_wp2_with fail
      refine (growP_calls (sumL l l.length) w (by omega)).mono ?_
      rintro e w1 ⟨v1, rfl, ho1, hc1⟩
      obtain ⟨A1, c1, rfl⟩ := own_slice ho1
      have HO1 := Lib.hid ho1
      have HC1 := Lib.hid hc1
      clear ho1 hc1
      go_wp2
      go_loopw [6, 27] (fun o i W => ∃ k : Nat, k ≤ l.length ∧ i = .int .i64 (k : Int) ∧ Hid (W.ownsRow w.heap.size 116 2 o (sumL l k) (catL l k)) ∧ Hid (Chg (fun _ => False) w W)) (fun _ i _ => l.length - (intOf i).toNat)
      case atStart => exact ⟨0, Nat.zero_le _, rfl, HO1.out, HC1.out⟩
      case round =>
        clear HO1 HC1
        obtain ⟨k, hk, rfl, HO, HC⟩ := hrel
        by_cases hlt : k < l.length
        · obtain ⟨g, off, rfl, _, _, hcell⟩ := (HR.out.chg HC.out (fun _ _ _ h => h)).at_ A c rfl k (by omega)
          rw [List.getElem?_map, List.getElem?_eq_getElem hlt, Option.map_some] at hcell
          have hrow := (HL.out l[k] (List.getElem_mem hlt)).1.chg HC.out (fun _ _ _ h => h)
          have hone := (HL.out l[k] (List.getElem_mem hlt)).2
          have hst : sumL l (k + 1) = sumL l k + (l[k]).2.1 := by simp [sumL, hlt]
          have hct : catL l (k + 1) = catL l k ++ (l[k]).2.2 := by simp [catL, hlt]
          have hle := HMO.out (k + 1) l.length hlt
          have HST := Lib.hid hst
          have HCT := Lib.hid hct
          have hb : sumL l k + (l[k]).2.1 ≤ 1000000 := by omega
          generalize l[k] = r at *
          obtain ⟨A1, c2, he, hm1, _⟩ := hrow.form
          rw [he] at hcell hrow
          have hlt2 : (k : Int) < (l.length : Int) := by omega
          have HRW := Lib.hid hrow
          have HON := Lib.hid hone
          have hsz := HC.out.size
          clear he hrow hst hle hm1 hct hone
          go_wp2_with (at_builtin; go_loud (refine wpList_append_row _ rfl (.tmp 31) (.tmp 32) 114 rfl w.heap.size 116 ie _ 2 32 Tryd.underlying114 hie hi0 hi1 hi2 rfl (by omega) _ (sumL l k) (catL l k) rfl HO.out S _ r.2.1 r.2.2 rfl HRW.out HON.out (by unfold maxLen; omega) (by omega) (by omega) ?_); intro v2 w2 hown2 hgrow hat)
          go_roundw
          case rel => exact ⟨k + 1, by omega, by go_num, by rw [HST.out, HCT.out]; exact hown2, HC.out.grown hgrow (fun i hi => Or.inr (own_base HO.out i hi))⟩
          case measure => simp [intOf]; omega
        · obtain rfl : k = l.length := by omega
          go_wp2
          go_returns
          exact ⟨_, rfl, HO.out, HC.out⟩
end Go.Proofs.YtakoidkeaccgeaaDoor

/- merge: the order of what is used: the comparison. -/
namespace Go.Proofs.YtakoidkeaccgeaaDoor
open Go.RowKit Go.Shelf Go.Sort

theorem alloc_grow (w : World) (o : Obj) : (w.alloc o).drew = grow (w.drewN 1) #[o] := by
  have h : (grow (w.drewN 1) #[o]).heap = (w.alloc o).heap := by
    show w.heap ++ #[o] = w.heap.push o
    simp
  show World.drew { w with heap := w.heap.push o } = { w.drewN 1 with heap := (grow (w.drewN 1) #[o]).heap }
  rw [h]
  rfl
def orI (x y : Int) : Int := if x = 0 then y else x
set_option maxHeartbeats 3200000 in
set_option maxRecDepth 100000 in
theorem or_calls (x y : Int) (B : Nat) (w : World) (h0 : w.cell? ⟨B, 0, none⟩ = some (.int .i64 x)) (h1 : w.cell? ⟨B, 1, none⟩ = some (.int .i64 y)) :
    Calls Tryd.prog 86 #[.slice (some ⟨B, 0, none⟩) 2 2] w fun e w' => e = .returned (.int .i64 (orI x y)) ∧ w' = w := by
  by_cases hx : x = 0
  · have hxb : (x != 0) = false := by simp [hx]
    have hr : orI x y = y := if_pos hx
    have HR := Lib.hid hr
    clear hr hx
    by_cases hy : y = 0
    · have hyb : (y != 0) = false := by simp [hy]
      have HY := Lib.hid hy
      clear hy
      go_enter Tryd.func86, Tryd.ntmps86
      go_wp2
      refine wp_loop_rounds 3 ?_
      rw [rounds_succ]
      go_wp2
      rw [rounds_succ]
      go_wp2
      rw [rounds_succ]
      go_wp2
      go_returns
      exact ⟨ret_int (by rw [HR.out, HY.out]), rfl⟩
    · have hyb : (y != 0) = true := by simpa using hy
      clear hy
      go_enter Tryd.func86, Tryd.ntmps86
      go_wp2
      refine wp_loop_rounds 3 ?_
      rw [rounds_succ]
      go_wp2
      rw [rounds_succ]
      go_wp2
      go_returns
      exact ⟨ret_int (by rw [HR.out]), rfl⟩
  · have hxb : (x != 0) = true := by simpa using hx
    have hr : orI x y = x := if_neg hx
    have HR := Lib.hid hr
    clear hr hx
    go_enter Tryd.func86, Tryd.ntmps86
    go_wp2
    refine wp_loop_rounds 3 ?_
    rw [rounds_succ]
    go_wp2
    go_returns
    exact ⟨ret_int (by rw [HR.out]), rfl⟩
/-- The comparison of two places: by their counts, the greater place first. -/
def cfU (c : List Nat) (x y : Nat) : Int := orI (Lib.compareInt (gN c x) (gN c y)) (Lib.compareInt y x)
set_option maxHeartbeats 3200000 in
set_option maxRecDepth 100000 in
theorem usedCmp_calls (bx : Nat) (S : Nat → Prop) (v : Value) (c : List Nat) (x y : Nat) (w : World) (hb : w.cell? ⟨bx, 0, none⟩ = some v) (hr : Row w S 3 1 v c.length (nis c)) (hx : x < c.length) (hy : y < c.length) :
    Calls Tryd.prog 85 #[.int .i64 (x : Int), .int .i64 (y : Int), .pointer (some ⟨bx, 0, none⟩)] w fun e w' => e = .returned (.int .i64 (cfU c x y)) ∧ ∃ q os, w' = grow (w.drewN q) os := by
  obtain ⟨A, k, rfl, hm, hA⟩ := hr.form
  obtain ⟨g, off, rfl, _, hg, c0⟩ := hr.at_ A k rfl x (by omega)
  have c1 := hr.cell y (by omega)
  rw [nis_at c x hx] at c0
  rw [nis_at c y hy] at c1
  have lb := World.block_lt_of_cell? w _ hb
  have hCM := fun (a b : Int) (W : World) => AnyG.cmp_Compare_int (P := Tryd.prog) Tryd.cmpL a b W
  have HCM := Lib.hid hCM
  clear hr hA hm hCM
  have x0 : (0 : Int) ≤ (x : Int) := by omega
  have x1 : (x : Int) < (c.length : Int) := by omega
  have y0 : (0 : Int) ≤ (y : Int) := by omega
  have y1 : (y : Int) < (c.length : Int) := by omega
  have n1 := World.new_ne w ⟨bx, 0, none⟩ hb
  have n2 := World.new_ne w ⟨g, off + x, none⟩ c0
  have n3 := World.new_ne w ⟨g, off + y, none⟩ c1
  go_enter Tryd.func85, Tryd.ntmps85
  go_wp2_with fail
  go_region_held3 (fun w' => w'.cell? ⟨bx, 0, none⟩ = some (.slice (some ⟨g, off, none⟩) c.length k) ∧ w'.cell? ⟨g, off + x, none⟩ = some (.int .i64 (gN c x : Int)) ∧ w'.cell? ⟨g, off + y, none⟩ = some (.int .i64 (gN c y : Int)))
    (first | go_keep)
    (first | (go_at_call 87; refine (HCM.out _ _ _).mono ?_; rintro e w' ⟨rfl, rfl⟩)
           | (go_at_call 86; refine (or_calls (Lib.compareInt (gN c x) (gN c y)) (Lib.compareInt y x) w.heap.size _ (by exact (Blk.new w #[.int .i64 (Lib.compareInt (gN c x) (gN c y)), .int .i64 (Lib.compareInt y x)] 3).cell 0) (by exact (Blk.new w #[.int .i64 (Lib.compareInt (gN c x) (gN c y)), .int .i64 (Lib.compareInt y x)] 3).cell 1)).mono ?_; rintro e w' ⟨rfl, rfl⟩))
  go_wp2
  go_returns
  exact ⟨rfl, 1, #[_], alloc_grow _ _⟩
end Go.Proofs.YtakoidkeaccgeaaDoor
