/- canon: a word's bits turned; what may be a length; a clone. -/
import Derived.Test.YtakoidkeaccgeaaDoorJ2
import Derived.Test.YtakoidkeaccgeaaDoorJ1
import Derived.Test.YtakoidkeaccgeaaDoorJ3
namespace Go.Proofs.YtakoidkeaccgeaaDoor
open Go.RowKit Go.Shelf

/-- The n lowest bits of v, in the opposite order. -/
def turn (v n : Nat) : Nat := bn (nb n v).reverse
theorem nb_succ' : ∀ n v, nb (n + 1) v = nb n v ++ [v / 2 ^ n % 2 == 1]
  | 0, v => by simp [nb]
  | n + 1, v => by
    rw [nb, nb_succ' n, nb, List.cons_append, Nat.div_div_eq_div_mul, ← Nat.pow_succ']
theorem turn_succ (v n : Nat) : turn v (n + 1) = 2 * turn v n + v / 2 ^ n % 2 := by
  unfold turn
  rw [nb_succ', List.reverse_append, List.reverse_singleton, List.singleton_append, bn]
  rcases Nat.mod_two_eq_zero_or_one (v / 2 ^ n) with h | h <;> simp [h] <;> omega
theorem turn_lt (v n : Nat) : turn v n < 2 ^ n := by
  have := bn_lt (nb n v).reverse
  simpa [turn, nb_length] using this
theorem nb_turn (v n : Nat) : nb n (turn v n) = (nb n v).reverse := by
  have := nb_bn (nb n v).reverse
  simpa [turn, nb_length] using this
theorem turn_step (o v : Nat) (ho : o < 2 ^ 62) (hv : v < 2 ^ 64) : bits .or .u64 (IntKind.u64.wrap ((o : Int) * 2)) (bits .and .u64 (v : Int) 1) = ((2 * o + v % 2 : Nat) : Int) := by
  have e1 := bits_mask .u64 64 (by decide) wraps_u64 1 (by decide) (v : Int) (by omega) (by omega)
  rw [show ((2 : Int) ^ 1 - 1) = 1 by decide] at e1
  rw [e1, wraps_u64 _ (by omega) (by omega), show ((o : Int) * 2) = ((2 * o : Nat) : Int) by omega, show ((v : Int) % 2 ^ 1) = ((v % 2 : Nat) : Int) by omega,
    (bits_nat .u64 64 (by decide) wraps_u64 (2 * o) (v % 2) (by omega) (by omega)).2]
  have := Nat.two_pow_add_eq_or_of_lt (i := 1) (b := v % 2) (by omega) o
  rw [Nat.pow_one] at this
  rw [this]

set_option maxHeartbeats 1600000 in
set_option maxRecDepth 100000 in
theorem turned_calls (v n : Nat) (hv : v < 2 ^ 64) (hn : n ≤ 15) (w : World) :
    Calls Tryd.prog 81 #[.int .u64 (v : Int), .int .i64 (n : Int)] w fun e w' => e = .returned (.int .u64 (turn v n : Int)) ∧ w' = w := by
  go_enter Tryd.func81, Tryd.ntmps81
  go_wp2
  go_loop [0, 5, 7] (fun a o i => ∃ k : Nat, k ≤ n ∧ i = .int .i64 (k : Int) ∧ a = .int .u64 ((v / 2 ^ k : Nat) : Int) ∧ o = .int .u64 ((turn v k : Nat) : Int)) (fun _ _ i => n - (intOf i).toNat)
  case atStart => exact ⟨0, Nat.zero_le _, rfl, by simp, rfl⟩
  case round =>
    obtain ⟨k, hk, rfl, rfl, rfl⟩ := hrel
    by_cases hlt : k < n
    · have h1 := turn_lt v k
      have h2 : (2 : Nat) ^ k ≤ 2 ^ 15 := Nat.pow_le_pow_right (by decide) (by omega)
      have h3 : v / 2 ^ k < 2 ^ 64 := Nat.lt_of_le_of_lt (Nat.div_le_self _ _) hv
      have h4 := turn_step (turn v k) (v / 2 ^ k) (by omega) h3
      have h5 := turn_succ v k
      have h6 : v / 2 ^ (k + 1) = v / 2 ^ k / 2 := by rw [Nat.div_div_eq_div_mul, ← Nat.pow_succ]
      generalize hx : v / 2 ^ k = x at *
      generalize hy : turn v k = y at *
      have H4 := Lib.hid h4
      have H5 := Lib.hid h5
      have H6 := Lib.hid h6
      have hlt2 : (k : Int) < (n : Int) := by omega
      clear h1 h2 h3 h4 h5 h6 hx hy
      go_wp2
      go_round
      case rel => exact ⟨k + 1, by omega, by go_num, by rw [H6.out]; congr 1, by rw [H5.out]; congr 1⟩
      case measure => simp [intOf]; omega
    · obtain rfl : k = n := by omega
      go_wp2
      go_returns
      exact ⟨rfl, rfl⟩

set_option maxHeartbeats 1600000 in
set_option maxRecDepth 100000 in
theorem canonBad_calls (n : Nat) (hn : n ≤ 15) (w : World) : Calls Tryd.prog 58 #[.int .i64 (n : Int)] w fun e w' => e = .returned (.bool false) ∧ w' = w := by
  have h1 : decide ((15 : Int) < (n : Int)) = false := by simp; omega
  go_enter Tryd.func58, Tryd.ntmps58
  go_wp2
  go_returns
  exact ⟨rfl, rfl⟩

theorem infoInt : (Tryd.prog.info? 3).map (fun i => (i.zero, i.size, i.bytes)) = some (some (.int .i64 0), 1, 8) := by kernel_rfl
/-- A clone of a row of whole numbers. -/
theorem cloneI_calls (S : Nat → Prop) (v : Value) (l : List Nat) (w : World) (h : Row w S 3 1 v l.length (nis l)) (hl : l.length ≤ 17592186044416) :
    Calls Tryd.prog 59 #[v] w fun e w' => ∃ v', e = .returned v' ∧ w'.ownsRow w.heap.size 3 1 v' l.length (nis l) ∧ Chg (fun _ => False) w w' := by
  rcases h.2 with ⟨rfl, h0⟩ | ⟨g, off, cap, cur, rfl, hS, hg, hn, hc, hs, ht⟩
  · have := List.eq_nil_of_length_eq_zero h0
    subst this
    refine (AnyE.slices_Clone_nil (P := Tryd.prog) Tryd.cloneL 0 0 w).mono ?_
    rintro e w' ⟨rfl, rfl⟩
    exact ⟨_, rfl, own_nil _ _ _ _, Chg.refl _ _⟩
  · obtain ⟨i0, hi, hz0, hz1, hz2⟩ := info_parts infoInt
    have hcell := fun j hj => h.cell (g := g) (off := off) (c := cap) j hj
    refine (AnyE.slices_Clone (P := Tryd.prog) Tryd.cloneL i0 (.int .i64 0) 1 8 hi hz0 hz1 hz2 rfl (by omega) Tryd.sizeOf3 g off l.length cap (nis l) w (by simp [nis]) (Nat.le_trans hn hc) (by omega) ?_ ?_).mono ?_
    · intro j u hu
      have hj : j < l.length * 1 := by have := (List.getElem?_eq_some_iff.1 hu).1; simpa [nis] using this
      rw [hcell j hj]; exact hu
    · intro u hu
      simp only [nis, List.mem_map] at hu
      obtain ⟨n, _, rfl⟩ := hu
      rfl
    · rintro e w' ⟨v', rfl, ho, _, hb⟩
      exact ⟨v', rfl, ho, Chg.of_below hb⟩
end Go.Proofs.YtakoidkeaccgeaaDoor

/- A block of memory that is known whole. -/
namespace Go.Proofs.YtakoidkeaccgeaaDoor
open Go.RowKit

def Blk (w : World) (b : Nat) (cs : List Value) (t : TypeId) : Prop := w.heap[b]? = some (.cells cs.toArray t (0, 0))
section
variable {w w' : World} {b : Nat} {cs : List Value} {t : TypeId}
theorem Blk.lt (h : Blk w b cs t) : b < w.heap.size := (Array.getElem?_eq_some_iff.1 h).1
theorem Blk.cell (h : Blk w b cs t) (j : Nat) : w.cell? ⟨b, j, none⟩ = cs[j]? := by
  unfold Blk at h
  rw [World.cell?, h]
  simp
theorem Blk.frozen (h : Blk w b cs t) (j : Nat) : w.frozen? ⟨b, j, none⟩ = false := by
  unfold Blk at h
  rw [World.frozen?, h]
  simp
theorem Blk.chg {T : Nat → Prop} (h : Blk w b cs t) (hc : Chg T w w') (hn : ¬ T b) : Blk w' b cs t := hc.blk h hn
theorem Blk.drewN (h : Blk w b cs t) (m : Nat) : Blk (w.drewN m) b cs t := h
theorem Blk.drew (h : Blk w b cs t) : Blk w.drew b cs t := h
theorem Blk.set (h : Blk w b cs t) (j : Nat) (u : Value) : Blk (w.setCell ⟨b, j, none⟩ u) b (cs.set j u) t := by
  unfold Blk at *
  simp only [World.setCell, Array.getElem?_modify, if_pos, h, Option.map_some]
  simp
theorem Blk.new (w : World) (cs : Array Value) (t : TypeId) : Blk (w.alloc (.cells cs t)) w.heap.size cs.toList t := by
  unfold Blk
  rw [heap_alloc_new]
theorem Blk.far (h : Blk w b cs t) {p : Addr} (hp : p.block ≠ b) (u : Value) : Blk (w.setCell p u) b cs t := by
  unfold Blk at *
  rw [← h]
  exact Below.heap_setCell w p u b (fun e => hp e.symm)
theorem Blk.alloc (h : Blk w b cs t) (o : Obj) : Blk (w.alloc o) b cs t := by
  unfold Blk at *
  rw [← h]
  exact Below.heap_alloc w o b (Blk.lt h)
end
theorem two_far (w : World) (b j : Nat) (u v : Value) (a : Addr) (h : a.block ≠ b) : ((w.setCell ⟨b, j, none⟩ u).setCell ⟨b, j + 1, none⟩ v).cell? a = w.cell? a := by
  rw [World.cell?_setCell_other _ _ _ _ (fun e => h (by rw [← e])), World.cell?_setCell_other _ _ _ _ (fun e => h (by rw [← e]))]
theorem two_0 (w : World) (b j : Nat) (u v x : Value) (h : w.cell? ⟨b, j, none⟩ = some x) : ((w.setCell ⟨b, j, none⟩ u).setCell ⟨b, j + 1, none⟩ v).cell? ⟨b, j, none⟩ = some u := by
  rw [World.cell?_setCell_other _ _ _ _ (by simp)]
  exact World.cell?_setCell_same _ _ _ h
theorem two_1 (w : World) (b j : Nat) (u v x : Value) (h : w.cell? ⟨b, j + 1, none⟩ = some x) : ((w.setCell ⟨b, j, none⟩ u).setCell ⟨b, j + 1, none⟩ v).cell? ⟨b, j + 1, none⟩ = some v := by
  refine World.cell?_setCell_same _ _ _ (u := x) ?_
  rw [World.cell?_setCell_other _ _ _ _ (by simp)]
  exact h
end Go.Proofs.YtakoidkeaccgeaaDoor
