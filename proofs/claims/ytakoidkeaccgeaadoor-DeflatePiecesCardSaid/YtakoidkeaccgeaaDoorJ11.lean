/- Plain: the lengths of package-merge make a whole code. -/
import Derived.Test.YtakoidkeaccgeaaDoorJ9
import Derived.Test.YtakoidkeaccgeaaDoorJ10
namespace Go.Proofs.YtakoidkeaccgeaaDoor
open Go.RowKit Go.Shelf Go.Sort

abbrev Pk := Nat × List Nat
theorem joinN_nil_left (b : List Pk) : joinN [] b = b := joinF_nil_left _ b
theorem joinN_nil_right (a : List Pk) : joinN a [] = a := joinF_nil_right _ a
/-- How often a place comes in packs. -/
def occ (ps : List Pk) (i : Nat) : Nat := (ps.map fun p => p.2.count i).sum
theorem occ_append (a b : List Pk) (i : Nat) : occ (a ++ b) i = occ a i + occ b i := by simp [occ]
theorem occ_cons (p : Pk) (b : List Pk) (i : Nat) : occ (p :: b) i = p.2.count i + occ b i := by simp [occ]
theorem occ_perm {a b : List Pk} (h : a.Perm b) (i : Nat) : occ a i = occ b i := by
  induction h with
  | nil => rfl
  | cons x _ ih => rw [occ_cons, occ_cons, ih]
  | swap x y l => simp only [occ_cons]; omega
  | trans _ _ h1 h2 => exact h1.trans h2
def Up (l : List Pk) : Prop := ∀ i j, i ≤ j → j < l.length → (gP l i).1 ≤ (gP l j).1
theorem gP_zero (x : Pk) (l : List Pk) : gP (x :: l) 0 = x := rfl
theorem gP_succ (x : Pk) (l : List Pk) (i : Nat) : gP (x :: l) (i + 1) = gP l i := rfl
theorem gP_app_left (a b : List Pk) (i : Nat) (h : i < a.length) : gP (a ++ b) i = gP a i := by
  unfold gP; rw [List.getD_eq_getElem?_getD, List.getElem?_append_left h, List.getD_eq_getElem?_getD]
theorem gP_app_right (a b : List Pk) (i : Nat) : gP (a ++ b) (a.length + i) = gP b i := by
  unfold gP; rw [List.getD_eq_getElem?_getD, List.getElem?_append_right (by omega), List.getD_eq_getElem?_getD, Nat.add_sub_cancel_left]
theorem gP_take (l : List Pk) (n i : Nat) (h : i < n) : gP (l.take n) i = gP l i := by
  unfold gP; rw [List.getD_eq_getElem?_getD, List.getElem?_take, if_pos h, List.getD_eq_getElem?_getD]
theorem up_tail {x : Pk} {l : List Pk} (h : Up (x :: l)) : Up l := fun i j hij hj => by
  have := h (i + 1) (j + 1) (by omega) (by simp; omega)
  simpa [gP_succ] using this
theorem up_head {x : Pk} {l : List Pk} (h : Up (x :: l)) : ∀ p ∈ l, x.1 ≤ p.1 := by
  intro p hp
  obtain ⟨i, hi, he⟩ := List.getElem_of_mem hp
  have := h 0 (i + 1) (by omega) (by simp; omega)
  rw [gP_zero, gP_succ] at this
  unfold gP at this
  rw [List.getD_eq_getElem?_getD, List.getElem?_eq_getElem hi, he] at this
  simpa using this
theorem up_cons {x : Pk} {l : List Pk} (h : Up l) (hx : ∀ p ∈ l, x.1 ≤ p.1) : Up (x :: l) := by
  intro i j hij hj
  cases i with
  | zero =>
    cases j with
    | zero => exact Nat.le_refl _
    | succ j => rw [gP_zero, gP_succ]; exact hx _ (gP_mem l j (by simp at hj; omega))
  | succ i =>
    cases j with
    | zero => omega
    | succ j => rw [gP_succ, gP_succ]; exact h i j (by omega) (by simp at hj; omega)
theorem up_nil : Up [] := fun i j _ hj => by simp at hj
theorem mem_joinN (a b : List Pk) : ∀ p, p ∈ joinN a b → p ∈ a ∨ p ∈ b := by
  induction a generalizing b with
  | nil => intro p h; rw [joinN_nil_left] at h; exact Or.inr h
  | cons x a iha =>
    induction b with
    | nil => intro p h; rw [joinN_nil_right] at h; exact Or.inl h
    | cons y b ihb =>
      intro p h
      rw [joinN_cons] at h
      split at h
      · rcases List.mem_cons.1 h with rfl | h
        · exact Or.inl (List.mem_cons_self ..)
        · exact (iha _ p h).imp (List.mem_cons_of_mem _) id
      · rcases List.mem_cons.1 h with rfl | h
        · exact Or.inr (List.mem_cons_self ..)
        · exact (ihb p h).imp id (List.mem_cons_of_mem _)
theorem up_join (a b : List Pk) (ha : Up a) (hb : Up b) : Up (joinN a b) := by
  induction a generalizing b with
  | nil => rw [joinN_nil_left]; exact hb
  | cons x a iha =>
    induction b with
    | nil => rw [joinN_nil_right]; exact ha
    | cons y b ihb =>
      rw [joinN_cons]
      split
      · rename_i h
        refine up_cons (iha (y :: b) (up_tail ha) hb) fun p hp => ?_
        rcases mem_joinN _ _ p hp with hp | hp
        · exact up_head ha p hp
        · rcases List.mem_cons.1 hp with rfl | hp
          · exact h
          · exact Nat.le_trans h (up_head hb p hp)
      · rename_i h
        refine up_cons (ihb (up_tail hb)) fun p hp => ?_
        rcases mem_joinN _ _ p hp with hp | hp
        · rcases List.mem_cons.1 hp with rfl | hp
          · omega
          · have := up_head ha p hp; omega
        · exact up_head hb p hp
/-- The first n of a join. -/
theorem join_take (a b : List Pk) (n : Nat) (hn : n ≤ a.length + b.length) : ∃ i j, i + j = n ∧ i ≤ a.length ∧ j ≤ b.length ∧ ((joinN a b).take n).Perm (a.take i ++ b.take j) ∧
    (i < a.length → 0 < j → Up a → Up b → (gP b (j - 1)).1 < (gP a i).1) := by
  induction a generalizing b n with
  | nil => exact ⟨0, n, by simp, by simp, by simpa using hn, by simp [joinN_nil_left], fun h => by simp at h⟩
  | cons x a iha =>
    induction b generalizing n with
    | nil => exact ⟨n, 0, by simp, by simpa using hn, by simp, by simp [joinN_nil_right], fun _ h => by simp at h⟩
    | cons y b ihb =>
      cases n with
      | zero => exact ⟨0, 0, rfl, by simp, by simp, by simp, fun _ h => by simp at h⟩
      | succ n =>
        rw [joinN_cons]
        split
        · rename_i h
          obtain ⟨i, j, h1, h2, h3, h4, h5⟩ := iha (y :: b) n (by simp at hn ⊢; omega)
          exact ⟨i + 1, j, by omega, by simp; omega, h3, by simpa using h4.cons x, fun ha hj hv hu => by rw [gP_succ]; exact h5 (by simp at ha; omega) hj (up_tail hv) hu⟩
        · rename_i h
          obtain ⟨i, j, h1, h2, h3, h4, h5⟩ := ihb n (by simp at hn ⊢; omega)
          refine ⟨i, j + 1, by omega, h2, by simp; omega, ?_, fun ha hj hv hu => ?_⟩
          · rw [List.take_succ_cons, List.take_succ_cons]
            exact (h4.cons y).trans (List.perm_middle.symm)
          · cases j with
            | zero =>
              show (gP (y :: b) 0).1 < _
              have := hv 0 i (by omega) ha
              rw [gP_zero] at this ⊢
              omega
            | succ j => exact h5 ha (by omega) hv (up_tail hu)

theorem pairsN_at (ps : List Pk) : ∀ k i, i < k → gP (pairsN ps k) i = ((gP ps (2 * i)).1 + (gP ps (2 * i + 1)).1, (gP ps (2 * i)).2 ++ (gP ps (2 * i + 1)).2)
  | 0, i, h => by omega
  | k + 1, i, h => by
    by_cases hi : i < k
    · rw [pairsN, gP_app_left _ _ _ (by rw [pairsN_length]; exact hi)]
      exact pairsN_at ps k i hi
    · obtain rfl : i = k := by omega
      have := gP_app_right (pairsN ps i) [((gP ps (2 * i)).1 + (gP ps (2 * i + 1)).1, (gP ps (2 * i)).2 ++ (gP ps (2 * i + 1)).2)] 0
      rw [pairsN_length] at this
      exact this
theorem up_pairs (ps : List Pk) (h : Up ps) (k : Nat) (hk : 2 * k ≤ ps.length) : Up (pairsN ps k) := by
  intro i j hij hj
  rw [pairsN_length] at hj
  rw [pairsN_at ps k i (by omega), pairsN_at ps k j hj]
  have h1 := h (2 * i) (2 * j) (by omega) (by omega)
  have h2 := h (2 * i + 1) (2 * j + 1) (by omega) (by omega)
  dsimp only; omega
theorem pairsN_take (ps : List Pk) : ∀ k b, b ≤ k → (pairsN ps k).take b = pairsN ps b
  | 0, b, h => by obtain rfl : b = 0 := by omega
                  rfl
  | k + 1, b, h => by
    by_cases hb : b ≤ k
    · rw [pairsN, List.take_append_of_le_length (by rw [pairsN_length]; exact hb)]
      exact pairsN_take ps k b hb
    · obtain rfl : b = k + 1 := by omega
      rw [List.take_of_length_le (by rw [pairsN_length]; omega)]
theorem take_snoc_gP (ps : List Pk) (k : Nat) (h : k < ps.length) : ps.take (k + 1) = ps.take k ++ [gP ps k] := by
  rw [List.take_succ_eq_append_getElem h]
  unfold gP
  simp [List.getD_eq_getElem?_getD, h]
theorem occ_pairs (ps : List Pk) (i : Nat) : ∀ k, 2 * k ≤ ps.length → occ (pairsN ps k) i = occ (ps.take (2 * k)) i
  | 0, _ => rfl
  | k + 1, h => by
    rw [pairsN, occ_append, occ_pairs ps i k (by omega), show 2 * (k + 1) = 2 * k + 1 + 1 by omega, take_snoc_gP ps (2 * k + 1) (by omega), take_snoc_gP ps (2 * k) (by omega), occ_append, occ_append, occ_cons, occ_cons, occ_cons]
    simp [occ]; try omega
theorem leavesN_at (c o : List Nat) : ∀ k i, i < k → gP (leavesN c o k) i = (gN c (gN o i), [i])
  | 0, i, h => by omega
  | k + 1, i, h => by
    by_cases hi : i < k
    · rw [leavesN, gP_app_left _ _ _ (by rw [leavesN_length]; exact hi)]
      exact leavesN_at c o k i hi
    · obtain rfl : i = k := by omega
      have := gP_app_right (leavesN c o i) [(gN c (gN o i), [i])] 0
      rw [leavesN_length] at this
      exact this
theorem leavesN_take (c o : List Nat) : ∀ k b, b ≤ k → (leavesN c o k).take b = leavesN c o b
  | 0, b, h => by obtain rfl : b = 0 := by omega
                  rfl
  | k + 1, b, h => by
    by_cases hb : b ≤ k
    · rw [leavesN, List.take_append_of_le_length (by rw [leavesN_length]; exact hb)]
      exact leavesN_take c o k b hb
    · obtain rfl : b = k + 1 := by omega
      rw [List.take_of_length_le (by rw [leavesN_length]; omega)]
theorem occ_leaves (c o : List Nat) (i : Nat) : ∀ k, occ (leavesN c o k) i = if i < k then 1 else 0
  | 0 => by simp [leavesN, occ]
  | k + 1 => by
    rw [leavesN, occ_append, occ_leaves c o i k, occ_cons]
    by_cases h : i = k
    · subst h; simp [occ]
    · have : List.count i [k] = 0 := List.count_eq_zero.2 (by intro hm; exact h (List.mem_singleton.1 hm))
      rw [this]
      by_cases h2 : i < k
      · rw [if_pos h2, if_pos (by omega)]; simp [occ]
      · rw [if_neg h2, if_neg (by omega)]; simp [occ]
/-- Costs rise along the order. -/
def UpO (c o : List Nat) : Prop := ∀ i j, i ≤ j → j < o.length → gN c (gN o i) ≤ gN c (gN o j)
theorem up_leaves (c o : List Nat) (h : UpO c o) : Up (leavesN c o o.length) := by
  intro i j hij hj
  rw [leavesN_length] at hj
  rw [leavesN_at c o _ i (by omega), leavesN_at c o _ j hj]
  exact h i j hij hj
theorem up_list (c o : List Nat) (h : UpO c o) : ∀ r, Up (listN c o r)
  | 0 => up_leaves c o h
  | r + 1 => up_join _ _ (up_leaves c o h) (up_pairs _ (up_list c o h r) _ (by omega))
/-- The sum of f over the first n. -/
def sumF (f : Nat → Nat) : Nat → Nat
  | 0 => 0
  | n + 1 => sumF f n + f n
theorem sumF_congr (f g : Nat → Nat) : ∀ n, (∀ i, i < n → f i = g i) → sumF f n = sumF g n
  | 0, _ => rfl
  | n + 1, h => by rw [sumF, sumF, sumF_congr f g n (fun i hi => h i (by omega)), h n (by omega)]
theorem sumF_split (f : Nat → Nat) (a : Nat) : ∀ n, a ≤ n → sumF f n = sumF f a + sumF (fun i => f (a + i)) (n - a)
  | 0, h => by obtain rfl : a = 0 := by omega
               rfl
  | n + 1, h => by
    by_cases ha : a ≤ n
    · rw [sumF, sumF_split f a n ha, show n + 1 - a = (n - a) + 1 by omega, sumF, show a + (n - a) = n by omega, Nat.add_assoc]
    · obtain rfl : a = n + 1 := by omega
      simp [sumF]
theorem sumF_const (x : Nat) : ∀ n, sumF (fun _ => x) n = n * x
  | 0 => by simp [sumF]
  | n + 1 => by rw [sumF, sumF_const x n, Nat.succ_mul]
theorem kraft_list (c o : List Nat) (hu : UpO c o) (h2 : 2 ≤ o.length) : ∀ r n, n ≤ (listN c o r).length → ∃ a, a ≤ o.length ∧ (∀ i, 0 < occ ((listN c o r).take n) i ↔ i < a) ∧ (∀ i, occ ((listN c o r).take n) i ≤ r + 1) ∧
      sumF (fun i => 2 ^ (r + 1 - occ ((listN c o r).take n) i)) a + n * 2 ^ r = a * 2 ^ (r + 1) ∧ (n = 0 → a = 0) ∧ (0 < a → gN c (gN o (a - 1)) ≤ (gP (listN c o r) (n - 1)).1) ∧ (2 * o.length - 2 ≤ n → a = o.length)
  | 0, n, hn => by
    have hn' : n ≤ o.length := by simpa [listN, leavesN_length] using hn
    have ho : ∀ i, occ ((listN c o 0).take n) i = if i < n then 1 else 0 := fun i => by
      show occ ((leavesN c o o.length).take n) i = _
      rw [leavesN_take c o _ n hn', occ_leaves]
    refine ⟨n, hn', fun i => ?_, fun i => ?_, ?_, fun h => h, fun h => ?_, fun h => by omega⟩
    · rw [ho]; split <;> simp_all
    · rw [ho]; split <;> omega
    · rw [sumF_congr _ (fun _ => 1) n (fun i hi => by rw [ho, if_pos hi]), sumF_const]; simp; omega
    · show _ ≤ (gP (leavesN c o o.length) (n - 1)).1
      rw [leavesN_at c o _ (n - 1) (by omega)]
      exact Nat.le_refl _
  | r + 1, n, hn => by
    have hF := up_list c o hu r
    have hlen := listN_length c o r
    obtain ⟨a, b, hab, ha, hb, hperm, hlt⟩ := join_take (leavesN c o o.length) (pairsN (listN c o r) ((listN c o r).length / 2)) n (by rw [leavesN_length, pairsN_length]; omega)
    rw [leavesN_length] at ha hlt
    rw [pairsN_length] at hb
    have hb2 : 2 * b ≤ (listN c o r).length := by omega
    obtain ⟨a', h1, h2', h3, h4, h5, h6, h7⟩ := kraft_list c o hu h2 r (2 * b) hb2
    have hocc : ∀ i, occ ((listN c o (r + 1)).take n) i = (if i < a then 1 else 0) + occ ((listN c o r).take (2 * b)) i := fun i => by
      show occ ((joinN _ _).take n) i = _
      rw [occ_perm hperm, occ_append, leavesN_take c o _ a ha, occ_leaves, pairsN_take _ _ b hb, occ_pairs _ _ b hb2]
    have haa : a' ≤ a := by
      rcases Nat.lt_or_ge a a' with h | h
      · exfalso
        have hb0 : 0 < b := by
          rcases Nat.eq_zero_or_pos b with hb0 | hb0
          · have := h5 (by omega); omega
          · exact hb0
        have q := hlt (by omega) hb0 (up_leaves c o hu) (up_pairs _ hF _ (by omega))
        rw [pairsN_at _ _ _ (by omega), leavesN_at _ _ _ _ (by omega)] at q
        have q2 := h6 (by omega)
        have q3 := hu a (a' - 1) (by omega) (by omega)
        rw [show 2 * b - 1 = 2 * (b - 1) + 1 by omega] at q2
        dsimp only at q
        omega
      · exact h
    refine ⟨a, ha, fun i => ?_, fun i => ?_, ?_, fun h => by omega, fun h => ?_, fun h => ?_⟩
    · rw [hocc]
      have := h2' i
      split <;> omega
    · rw [hocc]
      have := h3 i
      split <;> omega
    · rw [sumF_split _ a' a haa, sumF_congr _ (fun i => 2 ^ (r + 1 - occ ((listN c o r).take (2 * b)) i)) a' (fun i hi => by
        rw [hocc, if_pos (by omega)]; congr 1; omega), sumF_congr _ (fun _ => 2 ^ (r + 1)) (a - a') (fun i hi => by
        have := h2' (a' + i)
        rw [hocc, if_pos (by omega), show occ ((listN c o r).take (2 * b)) (a' + i) = 0 by omega]; rfl), sumF_const]
      have e1 : 2 ^ (r + 1 + 1) = 2 * 2 ^ (r + 1) := Nat.pow_succ' ..
      have e2 : 2 ^ (r + 1) = 2 * 2 ^ r := Nat.pow_succ' ..
      have m1 : (a - a') * 2 ^ (r + 1) + a' * 2 ^ (r + 1) = a * 2 ^ (r + 1) := by rw [← Nat.add_mul]; congr 1; omega
      have m2 : n * 2 ^ (r + 1) = a * 2 ^ (r + 1) + b * 2 ^ (r + 1) := by rw [← Nat.add_mul, hab]
      have m3 : 2 * b * 2 ^ r = b * 2 ^ (r + 1) := by rw [e2, Nat.mul_comm 2 b, Nat.mul_assoc]
      have m4 : a * 2 ^ (r + 1 + 1) = 2 * (a * 2 ^ (r + 1)) := by rw [e1]; exact Nat.mul_left_comm ..
      omega
    · have hn0 : 0 < n := by omega
      have hmem : (gN c (gN o (a - 1)), [a - 1]) ∈ (listN c o (r + 1)).take n := by
        refine hperm.mem_iff.2 (List.mem_append_left _ ?_)
        rw [leavesN_take c o _ a ha]
        have := gP_mem (leavesN c o a) (a - 1) (by rw [leavesN_length]; omega)
        rw [leavesN_at _ _ _ _ (by omega)] at this
        exact this
      obtain ⟨j, hj, he⟩ := List.getElem_of_mem hmem
      have hj' : j < n := by have : j < n := by simp at hj; omega
                             exact this
      have := up_list c o hu (r + 1) j (n - 1) (by omega) (by omega)
      have e2 : gP (listN c o (r + 1)) j = (gN c (gN o (a - 1)), [a - 1]) := by
        rw [← he]; unfold gP; simp [List.getD_eq_getElem?_getD, show j < (listN c o (r + 1)).length by omega]
      rw [e2] at this
      exact this
    · rcases Nat.lt_or_ge a o.length with hlt' | hge
      · have := h7 (by omega); omega
      · omega

theorem gN_incr_eq (l : List Nat) (i j : Nat) (hi : i < l.length) : gN (incr l i) j = gN l j + if i = j then 1 else 0 := by
  unfold incr
  rw [gN_set]
  by_cases h : i = j
  · subst h; rw [if_pos ⟨rfl, hi⟩, if_pos rfl]
  · rw [if_neg (fun e => h e.1), if_neg h]; rfl
theorem take_snoc_gN (l : List Nat) (k : Nat) (h : k < l.length) : l.take (k + 1) = l.take k ++ [gN l k] := by
  rw [List.take_succ_eq_append_getElem h, gN_eq]
def Inj (o : List Nat) : Prop := ∀ i j, i < o.length → j < o.length → gN o i = gN o j → i = j
theorem bumpIn_at (o l out : List Nat) (hinj : Inj o) (ho : ∀ x ∈ o, x < out.length) (hl : ∀ i ∈ l, i < o.length) (j : Nat) : ∀ k, k ≤ l.length → (j < o.length → gN (bumpIn o l out k) (gN o j) = gN out (gN o j) + (l.take k).count j) ∧ ∀ s, s ∉ o → gN (bumpIn o l out k) s = gN out s
  | 0, _ => ⟨fun _ => by simp [bumpIn], fun _ _ => rfl⟩
  | k + 1, hk => by
    obtain ⟨h1, h2⟩ := bumpIn_at o l out hinj ho hl j k (by omega)
    have hlk := hl _ (gN_mem l k (by omega))
    have hlt : gN o (gN l k) < (bumpIn o l out k).length := by rw [bumpIn_length]; exact ho _ (gN_mem o _ hlk)
    refine ⟨fun hj => ?_, fun s hs => ?_⟩
    · rw [bumpIn, gN_incr_eq _ _ _ hlt, h1 hj, take_snoc_gN l k (by omega), List.count_append, Nat.add_assoc]
      congr 2
      by_cases h : gN l k = j
      · subst h; simp
      · rw [if_neg (fun e => h (hinj _ _ hlk hj e))]
        exact (List.count_eq_zero.2 (by intro hm; exact h (List.mem_singleton.1 hm).symm)).symm
    · rw [bumpIn, gN_incr_eq _ _ _ hlt, h2 s hs, if_neg]; · rfl
      rintro rfl
      exact hs (gN_mem o _ hlk)
theorem bump_at (o : List Nat) (ps : List Pk) (out : List Nat) (hinj : Inj o) (ho : ∀ x ∈ o, x < out.length) (hl : ∀ p ∈ ps, ∀ i ∈ p.2, i < o.length) (j : Nat) : ∀ k, k ≤ ps.length → (j < o.length → gN (bump o ps out k) (gN o j) = gN out (gN o j) + occ (ps.take k) j) ∧ ∀ s, s ∉ o → gN (bump o ps out k) s = gN out s
  | 0, _ => ⟨fun _ => by simp [bump, occ], fun _ _ => rfl⟩
  | k + 1, hk => by
    obtain ⟨h1, h2⟩ := bump_at o ps out hinj ho hl j k (by omega)
    obtain ⟨g1, g2⟩ := bumpIn_at o (gP ps k).2 (bump o ps out k) hinj (by rw [bump_length]; exact ho) (hl _ (gP_mem ps k (by omega))) j _ (Nat.le_refl _)
    refine ⟨fun hj => ?_, fun s hs => ?_⟩
    · rw [bump, g1 hj, h1 hj, take_snoc_gP ps k (by omega), occ_append, occ_cons, List.take_length]
      simp [occ]; try omega
    · rw [bump, g2 s hs, h2 s hs]
theorem sum_map_gN (f : Nat → Nat) : ∀ l : List Nat, (l.map f).sum = sumF (fun i => f (gN l i)) l.length := by
  intro l
  induction l with
  | nil => rfl
  | cons x l ih =>
    rw [List.map_cons, List.sum_cons, ih, List.length_cons, sumF_split _ 1 (l.length + 1) (by omega), Nat.add_sub_cancel]
    congr 1
    · simp [sumF, gN]
    · exact sumF_congr _ _ _ (fun i _ => by rw [Nat.add_comm 1 i]; rfl)
theorem sum_perm {a b : List Nat} (h : a.Perm b) : a.sum = b.sum := by
  induction h with
  | nil => rfl
  | cons x _ ih => simp [ih]
  | swap x y l => simp; omega
  | trans _ _ h1 h2 => exact h1.trans h2
theorem orderN_perm (c : List Nat) : (orderN c).Perm (usedL c c.length) := List.mergeSort_perm _ _
theorem mem_usedL (c : List Nat) : ∀ k x, x ∈ usedL c k ↔ x < k ∧ 0 < gN c x
  | 0, x => by simp [usedL]
  | k + 1, x => by
    unfold usedL
    split
    · rename_i h
      rw [List.mem_append, mem_usedL c k x, List.mem_singleton]
      constructor
      · rintro (h1 | rfl)
        · exact ⟨by omega, h1.2⟩
        · exact ⟨by omega, h⟩
      · rintro ⟨h1, h2⟩
        by_cases e : x = k
        · exact Or.inr e
        · exact Or.inl ⟨by omega, h2⟩
    · rename_i h
      rw [mem_usedL c k x]
      constructor
      · rintro ⟨h1, h2⟩; exact ⟨by omega, h2⟩
      · rintro ⟨h1, h2⟩
        have : x ≠ k := by rintro rfl; exact h h2
        exact ⟨by omega, h2⟩
theorem mem_orderN (c : List Nat) (x : Nat) : x ∈ orderN c ↔ x < c.length ∧ 0 < gN c x := by
  rw [(orderN_perm c).mem_iff, mem_usedL]
theorem usedL_nodup (c : List Nat) : ∀ k, (usedL c k).Nodup
  | 0 => by simp [usedL]
  | k + 1 => by
    unfold usedL
    split
    · rw [List.nodup_append]
      refine ⟨usedL_nodup c k, by simp, ?_⟩
      intro a ha b hb
      have := usedL_lt c k a ha
      simp at hb
      omega
    · exact usedL_nodup c k
theorem orderN_inj (c : List Nat) : Inj (orderN c) := by
  intro i j hi hj h
  have hnd : (orderN c).Nodup := (orderN_perm c).nodup_iff.2 (usedL_nodup c _)
  rw [← gN_eq _ i hi, ← gN_eq _ j hj] at h
  exact (List.getElem_inj hnd).1 h
theorem orderN_up (c : List Nat) : UpO c (orderN c) := by
  have hp : (orderN c).Pairwise (fun x y => (!ltOf (cfU c) y x) = true) := by
    refine List.pairwise_mergeSort ?_ ?_ _
    · intro x y z h1 h2
      rw [ltU] at *
      simp at *
      omega
    · intro x y
      rw [ltU, ltU]
      simp
      omega
  intro i j hij hj
  rcases Nat.eq_or_lt_of_le hij with rfl | h
  · exact Nat.le_refl _
  · have := List.pairwise_iff_getElem.1 hp i j (by omega) hj h
    rw [gN_eq, gN_eq, ltU] at this
    simp at this
    omega
/-- What a length takes of 2^15. -/
def fK (x : Nat) : Nat := if 0 < x then 2 ^ (15 - x) else 0
def ksum (c : List Nat) : Nat → Nat
  | 0 => 0
  | n + 1 => 2 * ksum c n + gN c (n + 1)
theorem leftK_eq (c : List Nat) : ∀ n, leftK c n = (2 ^ n : Nat) - (ksum c n : Int)
  | 0 => by simp [leftK, ksum]
  | n + 1 => by
    rw [leftK, leftK_eq c n, ksum, Nat.pow_succ']
    omega
theorem ksum_incr (c : List Nat) (hc : c.length = 16) (j : Nat) (h1 : 1 ≤ j) (h2 : j ≤ 15) : ∀ n, n ≤ 15 → ksum (c.set j (gN c j + 1)) n = ksum c n + if j ≤ n then 2 ^ (n - j) else 0
  | 0, _ => by rw [if_neg (by omega)]; rfl
  | n + 1, hn => by
    rw [ksum, ksum, ksum_incr c hc j h1 h2 n (by omega), gN_set]
    by_cases h : j ≤ n
    · rw [if_pos h, if_neg (by omega), if_pos (by omega), show n + 1 - j = (n - j) + 1 by omega, Nat.pow_succ']
      omega
    · rw [if_neg h]
      by_cases e : j = n + 1
      · subst e
        rw [if_pos ⟨rfl, by omega⟩, if_pos (Nat.le_refl _), Nat.sub_self]
        omega
      · rw [if_neg (by omega), if_neg (by omega)]
        omega
theorem ksum_cnts (l : List Nat) (hl : ∀ s, gN l s ≤ 15) : ∀ k, ksum (cnts l k) 15 = sumF (fun s => fK (gN l s)) k
  | 0 => by rfl
  | k + 1 => by
    rw [sumF, ← ksum_cnts l hl k, show cnts l (k + 1) = if 0 < gN l k then (cnts l k).set (gN l k) (gN (cnts l k) (gN l k) + 1) else cnts l k from rfl]
    unfold fK
    have := hl k
    split
    · rw [ksum_incr _ (cnts_length l k) _ (by omega) this 15 (Nat.le_refl _), if_pos this]
    · rfl
theorem sumF_used (c : List Nat) (g : Nat → Nat) (hg : ∀ s, gN c s = 0 → g s = 0) : ∀ k, sumF g k = ((usedL c k).map g).sum
  | 0 => rfl
  | k + 1 => by
    rw [sumF, sumF_used c g hg k, show usedL c (k + 1) = if 0 < gN c k then usedL c k ++ [k] else usedL c k from rfl]
    split
    · simp
    · rw [hg k (by omega)]; rfl
theorem sumF_order (c : List Nat) (g : Nat → Nat) (hg : ∀ s, gN c s = 0 → g s = 0) : sumF g c.length = sumF (fun i => g (gN (orderN c) i)) (orderN c).length := by
  rw [sumF_used c g hg, ← sum_map_gN]
  exact (sum_perm ((orderN_perm c).map g)).symm
theorem gN_zero (n i : Nat) : gN (List.replicate n 0) i = 0 := by
  by_cases h : i < n
  · exact gN_rep _ _ _ h
  · exact gN_out _ _ (by simp; omega)
theorem le_sum : ∀ (l : List Nat) (x : Nat), x ∈ l → x ≤ l.sum
  | [], x, h => by simp at h
  | y :: l, x, h => by
    rw [List.sum_cons]
    rcases List.mem_cons.1 h with rfl | h
    · omega
    · have := le_sum l x h; omega
theorem gN_le_max (c : List Nat) : ∀ i, gN c i ≤ c.sum := by
  intro i
  by_cases h : i < c.length
  · exact le_sum _ _ (gN_mem c i h)
  · rw [gN_out c i (by omega)]; omega
theorem merge_facts (c : List Nat) (most : Nat) (h1 : 1 ≤ most) (h2 : 2 ≤ (orderN c).length) (ho : (orderN c).length ≤ 2 ^ most) :
    (∀ s, gN c s = 0 → gN (mergeN c most) s = 0) ∧ (∀ s, s < c.length → 0 < gN c s → 1 ≤ gN (mergeN c most) s) ∧ (∀ s, gN (mergeN c most) s ≤ most) ∧
    sumF (fun i => 2 ^ (most - gN (mergeN c most) (gN (orderN c) i))) (orderN c).length = 2 ^ most := by
  have he : mergeN c most = bump (orderN c) (listN c (orderN c) (most - 1)) (List.replicate c.length 0) (2 * (orderN c).length - 2) := if_neg (by omega)
  have hen := listN_enough c (orderN c) most h1 h2 ho
  have hpb := listN_PB c (orderN c) c.sum (gN_le_max c) (most - 1)
  obtain ⟨a, g1, g2, g3, g4, g5, g6, g7⟩ := kraft_list c (orderN c) (orderN_up c) h2 (most - 1) _ hen
  obtain rfl := g7 (Nat.le_refl _)
  have hb := fun j => bump_at (orderN c) (listN c (orderN c) (most - 1)) (List.replicate c.length 0) (orderN_inj c) (by simpa using orderN_lt c) (fun p hp => (hpb p hp).2.2) j _ hen
  rw [← he] at hb
  have hout : ∀ s, s ∉ orderN c → gN (mergeN c most) s = 0 := fun s hs => by rw [(hb 0).2 s hs, gN_zero]
  have hin : ∀ j, j < (orderN c).length → gN (mergeN c most) (gN (orderN c) j) = occ ((listN c (orderN c) (most - 1)).take (2 * (orderN c).length - 2)) j := fun j hj => by
    rw [(hb j).1 hj, gN_zero, Nat.zero_add]
  have hidx : ∀ s, s ∈ orderN c → ∃ j, j < (orderN c).length ∧ gN (orderN c) j = s := fun s hs => by
    obtain ⟨j, hj, e⟩ := List.getElem_of_mem hs
    exact ⟨j, hj, by rw [← gN_eq _ j hj]; exact e⟩
  refine ⟨fun s hs => hout s (fun hm => by have := ((mem_orderN c s).1 hm).2; omega), fun s hs hp => ?_, fun s => ?_, ?_⟩
  · obtain ⟨j, hj, rfl⟩ := hidx s ((mem_orderN c s).2 ⟨hs, hp⟩)
    rw [hin j hj]
    exact (g2 j).2 hj
  · by_cases hs : s ∈ orderN c
    · obtain ⟨j, hj, rfl⟩ := hidx s hs
      rw [hin j hj]
      have := g3 j
      omega
    · rw [hout s hs]; omega
  · rw [sumF_congr _ (fun i => 2 ^ (most - 1 + 1 - occ ((listN c (orderN c) (most - 1)).take (2 * (orderN c).length - 2)) i)) _ (fun i hi => by rw [hin i hi]; congr 1; omega)]
    have e : 2 ^ (most - 1 + 1) = 2 * 2 ^ (most - 1) := Nat.pow_succ' ..
    have e2 : 2 ^ most = 2 * 2 ^ (most - 1) := by rw [← e]; congr 1; omega
    have m1 : (2 * (orderN c).length - 2) * 2 ^ (most - 1) + 2 * 2 ^ (most - 1) = (orderN c).length * 2 ^ (most - 1 + 1) := by
      rw [← Nat.add_mul, e, Nat.mul_comm 2 (2 ^ (most - 1)), ← Nat.mul_assoc, Nat.mul_comm _ 2, ← Nat.mul_assoc]
      congr 1; omega
    rw [e2]
    omega
theorem sumF_mul (f : Nat → Nat) (k : Nat) : ∀ n, sumF (fun i => f i * k) n = sumF f n * k
  | 0 => by simp [sumF]
  | n + 1 => by rw [sumF, sumF, sumF_mul f k n, Nat.add_mul]
theorem merge_kraft (c : List Nat) (most : Nat) (h1 : 1 ≤ most) (hm : most ≤ 15) (h2 : 2 ≤ (orderN c).length) (ho : (orderN c).length ≤ 2 ^ most) :
    sumF (fun s => fK (gN (mergeN c most) s)) c.length = 2 ^ 15 := by
  obtain ⟨g1, g2, g3, g4⟩ := merge_facts c most h1 h2 ho
  rw [sumF_order c _ (fun s hs => by rw [g1 s hs]; rfl)]
  rw [sumF_congr _ (fun i => 2 ^ (most - gN (mergeN c most) (gN (orderN c) i)) * 2 ^ (15 - most)) _ (fun i hi => by
    have hmem := (mem_orderN c _).1 (gN_mem _ i hi)
    have q1 := g2 _ hmem.1 hmem.2
    have q2 := g3 (gN (orderN c) i)
    unfold fK
    rw [if_pos (by omega), ← Nat.pow_add]
    congr 1; omega), sumF_mul, g4, ← Nat.pow_add]
  congr 1; omega

/-- Where lengths end with zeros these don't count. -/
theorem cnts_take (l : List Nat) (a : Nat) (h : ∀ i, a ≤ i → gN l i = 0) : ∀ k, a ≤ k → cnts l k = cnts l a
  | 0, hk => by obtain rfl : a = 0 := by omega
                rfl
  | k + 1, hk => by
    by_cases e : a = k + 1
    · rw [e]
    · rw [← cnts_take l a h k (by omega), show cnts l (k + 1) = if 0 < gN l k then (cnts l k).set (gN l k) (gN (cnts l k) (gN l k) + 1) else cnts l k from rfl, if_neg (by rw [h k (by omega)]; omega)]
theorem gN_take (l : List Nat) (a i : Nat) (h : i < a) : gN (l.take a) i = gN l i := by
  unfold gN; rw [List.getD_eq_getElem?_getD, List.getElem?_take, if_pos h, List.getD_eq_getElem?_getD]
theorem cnts_congr (l m : List Nat) : ∀ k, (∀ i, i < k → gN l i = gN m i) → cnts l k = cnts m k
  | 0, _ => rfl
  | k + 1, h => by
    rw [show cnts l (k + 1) = if 0 < gN l k then (cnts l k).set (gN l k) (gN (cnts l k) (gN l k) + 1) else cnts l k from rfl, show cnts m (k + 1) = if 0 < gN m k then (cnts m k).set (gN m k) (gN (cnts m k) (gN m k) + 1) else cnts m k from rfl, cnts_congr l m k (fun i hi => h i (by omega)), h k (by omega)]
theorem newErr_take (l : List Nat) (a : Nat) (loose : Bool) (ha : a ≤ l.length) (h : ∀ i, a ≤ i → gN l i = 0) : newErr (l.take a) loose = newErr l loose := by
  unfold newErr
  rw [List.length_take, Nat.min_eq_left ha, cnts_congr (l.take a) l a (fun i hi => gN_take l a i hi), ← cnts_take l a h l.length ha]
theorem newErr_full (l : List Nat) (loose : Bool) (hl : ∀ s, gN l s ≤ 15) (h : sumF (fun s => fK (gN l s)) l.length = 2 ^ 15) : newErr l loose = 0 := by
  have : leftK (cnts l l.length) 15 = 0 := by
    rw [leftK_eq, ksum_cnts l hl, h]; omega
  unfold newErr
  rw [this, if_neg (by omega), if_neg (by omega)]
theorem posK_eq (l : List Nat) : ∀ k, posK l k = sumF (fun s => if 0 < gN l s then 1 else 0) k
  | 0 => rfl
  | k + 1 => by
    rw [sumF, ← posK_eq l k, show posK l (k + 1) = if 0 < gN l k then posK l k + 1 else posK l k from rfl]
    split <;> rfl
theorem ones_one (c : List Nat) (h : (orderN c).length = 1) (most : Nat) : ∃ s, s < c.length ∧ 0 < gN c s ∧ orderN c = [s] ∧ mergeN c most = (List.replicate c.length 0).set s 1 := by
  have he : mergeN c most = ones (orderN c) (List.replicate c.length 0) (orderN c).length := if_pos (by omega)
  obtain ⟨s, hs⟩ := List.length_eq_one_iff.1 h
  have hm := (mem_orderN c s).1 (by rw [hs]; exact List.mem_singleton.2 rfl)
  refine ⟨s, hm.1, hm.2, hs, ?_⟩
  rw [he, hs]
  rfl
theorem ones_none (c : List Nat) (h : (orderN c).length = 0) (most : Nat) : mergeN c most = List.replicate c.length 0 := by
  have he : mergeN c most = ones (orderN c) (List.replicate c.length 0) (orderN c).length := if_pos (by omega)
  rw [he, h]
  rfl
theorem sumF_zero (f : Nat → Nat) : ∀ n, (∀ i, i < n → f i = 0) → sumF f n = 0
  | 0, _ => rfl
  | n + 1, h => by rw [sumF, sumF_zero f n (fun i hi => h i (by omega)), h n (by omega)]
theorem sumF_single (f : Nat → Nat) (s : Nat) : ∀ n, s < n → (∀ i, i < n → i ≠ s → f i = 0) → sumF f n = f s
  | 0, h, _ => by omega
  | n + 1, h, hz => by
    rw [sumF]
    by_cases e : s = n
    · subst e; rw [sumF_zero f s (fun i hi => hz i (by omega) (by omega)), Nat.zero_add]
    · rw [sumF_single f s n (by omega) (fun i hi hn => hz i (by omega) hn), hz n (by omega) (fun h => e h.symm), Nat.add_zero]
theorem gN_unit (n s i : Nat) (hs : s < n) : gN ((List.replicate n 0).set s 1) i = if i = s then 1 else 0 := by
  rw [gN_set]
  by_cases e : i = s
  · subst e; rw [if_pos ⟨rfl, by simpa using hs⟩, if_pos rfl]
  · rw [if_neg (fun h => e h.1.symm), if_neg e, gN_zero]
/-- How many symbols come. -/
theorem posK_merge (c : List Nat) (most : Nat) (h1 : 1 ≤ most) (ho : (orderN c).length ≤ 2 ^ most) : posK (mergeN c most) c.length = (orderN c).length := by
  rw [posK_eq]
  rcases Nat.lt_or_ge (orderN c).length 2 with h | h
  · by_cases h0 : (orderN c).length = 0
    · rw [h0, ones_none c h0]
      exact sumF_zero _ _ (fun i hi => by rw [gN_zero]; rfl)
    · have h1' : (orderN c).length = 1 := by omega
      obtain ⟨s, hs, hp, hos, hm⟩ := ones_one c h1' most
      rw [hm, h1', sumF_single _ s _ hs (fun i hi hn => by rw [gN_unit _ _ _ hs, if_neg hn]; rfl), gN_unit _ _ _ hs, if_pos rfl]; rfl
  · obtain ⟨g1, g2, g3, g4⟩ := merge_facts c most h1 h ho
    rw [sumF_order c _ (fun s hs => by rw [g1 s hs]; rfl), sumF_congr _ (fun _ => 1) _ (fun i hi => by
      have hmem := (mem_orderN c _).1 (gN_mem _ i hi)
      rw [if_pos (Nat.lt_of_lt_of_le Nat.zero_lt_one (g2 _ hmem.1 hmem.2))]), sumF_const, Nat.mul_one]
theorem fzK_spec (l : List Nat) : ∀ k, (fzK l k = -1 ∧ ∀ i, i < k → 0 < gN l i) ∨ (∃ j : Nat, fzK l k = (j : Int) ∧ j < k ∧ gN l j = 0)
  | 0 => Or.inl ⟨rfl, fun i hi => by omega⟩
  | k + 1 => by
    rw [show fzK l (k + 1) = if 0 < gN l k then fzK l k else if fzK l k < 0 then (k : Int) else fzK l k from rfl]
    rcases fzK_spec l k with ⟨e, h⟩ | ⟨j, e, hj, hz⟩
    · split
      · rename_i hp
        exact Or.inl ⟨e, fun i hi => by
          by_cases q : i = k
          · rw [q]; exact hp
          · exact h i (by omega)⟩
      · rename_i hp
        rw [if_pos (by omega)]
        exact Or.inr ⟨k, rfl, by omega, by omega⟩
    · split
      · exact Or.inr ⟨j, e, by omega, hz⟩
      · rw [if_neg (by omega)]
        exact Or.inr ⟨j, e, by omega, hz⟩
theorem merge_le (c : List Nat) (most : Nat) (h1 : 1 ≤ most) (ho : (orderN c).length ≤ 2 ^ most) : ∀ s, gN (mergeN c most) s ≤ most := by
  rcases Nat.lt_or_ge (orderN c).length 2 with h | h
  · by_cases h0 : (orderN c).length = 0
    · intro s; rw [ones_none c h0, gN_zero]; omega
    · obtain ⟨s, hs, hp, hos, hm⟩ := ones_one c (by omega) most
      intro i
      rw [hm, gN_unit _ _ _ hs]; split <;> omega
  · exact (merge_facts c most h1 h ho).2.2.1
theorem merge_pos (c : List Nat) (most : Nat) (h1 : 1 ≤ most) (ho : (orderN c).length ≤ 2 ^ most) : ∀ s, s < c.length → 0 < gN c s → 1 ≤ gN (mergeN c most) s := by
  rcases Nat.lt_or_ge (orderN c).length 2 with h | h
  · intro s hs hp
    have hm := (mem_orderN c s).2 ⟨hs, hp⟩
    have h0 : (orderN c).length = 1 := by
      have := List.length_pos_of_mem hm; omega
    obtain ⟨t, ht, hq, hos, hmm⟩ := ones_one c h0 most
    rw [hos] at hm
    obtain rfl := List.mem_singleton.1 hm
    rw [hmm, gN_unit _ _ _ ht, if_pos rfl]
    omega
  · exact (merge_facts c most h1 h ho).2.1
/-- The lengths with at least one symbol make a whole code. -/
theorem strict_facts (c : List Nat) (most : Nat) (h1 : 1 ≤ most) (hm : most ≤ 15) (hc : 2 ≤ c.length) (hu : 1 ≤ (orderN c).length) (ho : (orderN c).length ≤ 2 ^ most) :
    (∀ s, gN (strictN c most) s ≤ most) ∧ newErr (strictN c most) false = 0 ∧ ∀ s, s < c.length → 0 < gN c s → 1 ≤ gN (strictN c most) s := by
  have hle := merge_le c most h1 ho
  have hp := merge_pos c most h1 ho
  have hps := posK_merge c most h1 ho
  have hlen := mergeN_length c most
  unfold strictN
  rw [hps]
  by_cases hone : (orderN c).length = 1
  · rw [if_pos hone]
    obtain ⟨s, hs, hsp, hos, hmm⟩ := ones_one c hone most
    obtain ⟨j, hj1, hj2, hj3⟩ : ∃ j : Nat, fzK (mergeN c most) c.length = (j : Int) ∧ j < c.length ∧ gN (mergeN c most) j = 0 := by
      rcases fzK_spec (mergeN c most) c.length with ⟨_, h⟩ | h
      · exfalso
        rw [hmm] at h
        have q0 := h 0 (by omega)
        have q1 := h 1 (by omega)
        rw [gN_unit _ _ _ hs] at q0 q1
        split at q0 <;> split at q1 <;> omega
      · exact h
    rw [hj1, Int.toNat_natCast]
    have hjs : j ≠ s := by
      rintro rfl
      rw [hmm, gN_unit _ _ _ hs, if_pos rfl] at hj3
      omega
    have hg : ∀ i, gN ((mergeN c most).set j 1) i = if i = j ∨ i = s then 1 else 0 := fun i => by
      rw [gN_set, hmm, gN_unit _ _ _ hs]
      simp only [List.length_set, List.length_replicate]
      by_cases e : j = i
      · subst e; rw [if_pos ⟨rfl, hj2⟩, if_pos (Or.inl rfl)]
      · rw [if_neg (fun h => e h.1)]
        by_cases e2 : i = s
        · rw [if_pos e2, if_pos (Or.inr e2)]
        · rw [if_neg e2, if_neg (fun h => h.elim (fun h => e h.symm) e2)]
    refine ⟨fun i => by rw [hg]; split <;> omega, newErr_full _ _ (fun i => by rw [hg]; split <;> omega) ?_, fun i hi hpi => ?_⟩
    · rw [List.length_set, hlen]
      have hlo : min j s < max j s := by omega
      have hhi : max j s < c.length := by omega
      rw [sumF_split _ (max j s) _ (by omega), sumF_single _ (min j s) (max j s) hlo (fun i hi hn => by rw [hg, if_neg (by omega)]; rfl), sumF_single _ 0 (c.length - max j s) (by omega) (fun i hi hn => by rw [hg, if_neg (by omega)]; rfl), hg, hg, if_pos (by omega), if_pos (by omega)]
      rfl
    · have hmem := (mem_orderN c i).2 ⟨hi, hpi⟩
      rw [hos] at hmem
      rw [hg, if_pos (Or.inr (List.mem_singleton.1 hmem))]
      omega
  · rw [if_neg hone]
    exact ⟨hle, newErr_full _ _ (fun s => Nat.le_trans (hle s) hm) (by rw [hlen]; exact merge_kraft c most h1 hm (by omega) ho), hp⟩
theorem sumTo_zero (c : List Nat) : ∀ n, (∀ i, i < n → gN c i = 0) → sumTo c n = 0
  | 0, _ => rfl
  | n + 1, h => by rw [sumTo, sumTo_zero c n (fun i hi => h i (by omega)), h n (by omega)]
theorem cnts_zeros (n : Nat) : ∀ k, cnts (List.replicate n 0) k = List.replicate 16 0
  | 0 => rfl
  | k + 1 => by
    rw [show cnts (List.replicate n 0) (k + 1) = if 0 < gN (List.replicate n 0) k then (cnts (List.replicate n 0) k).set (gN (List.replicate n 0) k) (gN (cnts (List.replicate n 0) k) (gN (List.replicate n 0) k) + 1) else cnts (List.replicate n 0) k from rfl, gN_zero, if_neg (by omega), cnts_zeros n k]
theorem cnts_unit (n s : Nat) (hs : s < n) : ∀ k, cnts ((List.replicate n 0).set s 1) k = if s < k then (List.replicate 16 0).set 1 1 else List.replicate 16 0
  | 0 => rfl
  | k + 1 => by
    rw [show cnts ((List.replicate n 0).set s 1) (k + 1) = if 0 < gN ((List.replicate n 0).set s 1) k then (cnts ((List.replicate n 0).set s 1) k).set (gN ((List.replicate n 0).set s 1) k) (gN (cnts ((List.replicate n 0).set s 1) k) (gN ((List.replicate n 0).set s 1) k) + 1) else cnts ((List.replicate n 0).set s 1) k from rfl, gN_unit _ _ _ hs, cnts_unit n s hs k]
    by_cases e : k = s
    · subst e; rw [if_pos rfl, if_pos (by omega), if_neg (by omega), if_pos (by omega)]; rfl
    · rw [if_neg e, if_neg (by omega)]
      by_cases h : s < k
      · rw [if_pos h, if_pos (by omega)]
      · rw [if_neg h, if_neg (by omega)]
theorem loose_facts (c : List Nat) (most : Nat) (h1 : 1 ≤ most) (hm : most ≤ 15) (ho : (orderN c).length ≤ 2 ^ most) : newErr (mergeN c most) true = 0 := by
  rcases Nat.lt_or_ge (orderN c).length 2 with h | h
  · by_cases h0 : (orderN c).length = 0
    · rw [ones_none c h0]
      unfold newErr
      rw [cnts_zeros]
      decide +kernel
    · obtain ⟨s, hs, hp, hos, hmm⟩ := ones_one c (by omega) most
      have hcu : cnts ((List.replicate c.length 0).set s 1) ((List.replicate c.length 0).set s 1).length = (List.replicate 16 0).set 1 1 := by
        rw [cnts_unit _ _ hs, List.length_set, List.length_replicate, if_pos hs]
      rw [hmm]
      unfold newErr
      rw [hcu]
      decide +kernel
  · exact newErr_full _ _ (fun s => Nat.le_trans (merge_le c most h1 ho s) hm) (by rw [mergeN_length]; exact merge_kraft c most h1 hm h ho)
end Go.Proofs.YtakoidkeaccgeaaDoor
