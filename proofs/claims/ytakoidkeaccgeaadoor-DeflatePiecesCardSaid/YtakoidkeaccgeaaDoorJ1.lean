/- Words on memory: what a call may change, and rows. -/
import Derived.Below
import Derived.Deep.Draws
import Derived.Deep.AppendLies
import Derived.Maps.AppendAt
import Derived.OwnWalk
import Derived.Laws.BytesArg
import Derived.Laws.MakeOwn
import Derived.Laws.OwnMore
import Derived.Deep.OwnRows
import Derived.Tactics
import Derived.Lib.ConvBytes
import Derived.Laws.Slices
import Derived.WalkKit
import Derived.KernelRfl
import Derived.RowKit3
import Derived.Deep.LoopGhost
import Derived.Deep.QuietTactic
import Derived.BigQuiet
import Derived.WideLaws
import Derived.Deep.DeepCutAuto
import Derived.Deep.CutBlock
import Derived.Deep.RegionHeld3
import Derived.Laws.Rows
import Derived.Lib.AppendStr
import Derived.ArgAppend
import Derived.Laws.IdiomCopy
import Derived.OrdersHeld
import Derived.Laws.BitsLemmas
import Derived.RowKit
import Derived.Outline
import Derived.Deep.DeepFit
import Derived.BigRegion
import Derived.Lib.Hide
import Derived.StillTailTactics
import Derived.Handy
import Derived.Shelf.Abstract
import Derived.Deep.RegionLaw
namespace Go.Proofs.YtakoidkeaccgeaaDoor
open Go.RowKit

/-- What was there before is as it was, but for the blocks of S. -/
structure Chg (S : Nat → Prop) (w w' : World) : Prop where
  os : w'.os = w.os
  tape : w'.tape = w.tape
  output : w'.output = w.output
  size : w.heap.size ≤ w'.heap.size
  block : ∀ k, k < w.heap.size → ¬ S k → w'.heap[k]? = w.heap[k]?

namespace Chg
variable {S T : Nat → Prop} {a b c w w' : World}
theorem refl (S : Nat → Prop) (w : World) : Chg S w w := ⟨rfl, rfl, rfl, Nat.le_refl _, fun _ _ _ => rfl⟩
theorem trans (h : Chg S a b) (k : Chg T b c) (hT : ∀ i, T i → S i ∨ a.heap.size ≤ i) : Chg S a c :=
  ⟨k.os.trans h.os, k.tape.trans h.tape, k.output.trans h.output, Nat.le_trans h.size k.size, fun i hi hn =>
    (k.block i (Nat.lt_of_lt_of_le hi h.size) (fun ht => (hT i ht).elim hn (fun h => by omega))).trans (h.block i hi hn)⟩
theorem mono (h : Chg S a b) (hS : ∀ i, S i → T i) : Chg T a b := ⟨h.os, h.tape, h.output, h.size, fun i hi hn => h.block i hi (fun hs => hn (hS i hs))⟩
theorem drew (h : Chg S a b) : Chg S a b.drew := ⟨h.os, h.tape, h.output, h.size, h.block⟩
theorem drewN (h : Chg S a b) (n : Nat) : Chg S a (b.drewN n) := ⟨h.os, h.tape, h.output, h.size, h.block⟩
theorem alloc (h : Chg S a b) (o : Obj) : Chg S a (b.alloc o) :=
  h.trans (T := fun _ => False) ⟨rfl, rfl, rfl, by simp, fun k hk _ => Below.heap_alloc _ _ _ hk⟩ (fun _ h => h.elim)
theorem setCell (h : Chg S a b) {p : Addr} (hp : S p.block ∨ a.heap.size ≤ p.block) (u : Value) : Chg S a (b.setCell p u) :=
  h.trans (T := fun k => k = p.block) ⟨rfl, rfl, rfl, by simp [World.setCell], fun k _ hn => Below.heap_setCell _ _ _ _ hn⟩ (fun i hi => by rw [hi]; exact hp)
theorem of_grown {row : Option Nat} (h : w.grownBy w' row) : Chg (fun k => row = some k) w w' :=
  ⟨h.os, h.tape, h.output, h.size, fun k hk hn => h.block k hk (fun e => hn e.symm)⟩
theorem grown (h : Chg S a w) {row : Option Nat} (hg : w.grownBy w' row) (hr : ∀ k, row = some k → S k ∨ a.heap.size ≤ k) : Chg S a w' := h.trans (of_grown hg) hr
theorem cell (h : Chg S w w') {p : Addr} {v : Value} (hc : w.cell? p = some v) (hn : ¬ S p.block) : w'.cell? p = some v :=
  (World.cell?_of_block (w := w) (h.block p.block (World.block_lt_of_cell? w p hc) hn)).trans hc
theorem frozen (h : Chg S w w') {p : Addr} (hp : p.block < w.heap.size) (hn : ¬ S p.block) : w'.frozen? p = w.frozen? p := World.frozen?_of_block (w := w) (h.block p.block hp hn)
theorem blk (h : Chg S w w') {g : Nat} {o : Obj} (hb : w.heap[g]? = some o) (hn : ¬ S g) : w'.heap[g]? = some o :=
  (h.block g (Array.getElem?_eq_some_iff.1 hb).1 hn).trans hb
theorem of_below (h : Below w.heap.size w w') : Chg S w w' := ⟨h.os, h.tape, h.output, h.size, fun k hk _ => h.block k hk⟩
theorem below (h : Chg (fun _ => False) w w') : Below w.heap.size w w' := ⟨h.os, h.tape, h.output, h.size, fun k hk => h.block k hk (fun h => h)⟩
theorem own (h : Chg S w w') {base : Nat} {e : TypeId} {size n : Nat} {v : Value} {xs : List Value} (ho : w.ownsRow base e size v n xs) (hn : ∀ k, v.ownBlock = some k → ¬ S k) : w'.ownsRow base e size v n xs := by
  obtain ⟨h1, h2⟩ := ho
  refine ⟨h1, ?_⟩
  rcases h2 with h2 | ⟨g, cap, cur, rfl, hg, hh, r⟩
  · exact .inl h2
  · exact .inr ⟨g, cap, cur, rfl, hg, h.blk hh (hn g (by simp [Value.ownBlock])), r⟩
end Chg

theorem own_blk_lt {w : World} {base : Nat} {e : TypeId} {size n : Nat} {v : Value} {xs : List Value} (h : w.ownsRow base e size v n xs) (k : Nat) (hk : v.ownBlock = some k) : k < w.heap.size := by
  rcases h.2 with ⟨rfl, _⟩ | ⟨g, cap, cur, rfl, hb, hh, _⟩
  · simp [Value.ownBlock] at hk
  · have : g = k := by simpa [Value.ownBlock] using hk
    subst this
    exact (Array.getElem?_eq_some_iff.1 hh).1
theorem own_nil (W : World) (base : Nat) (e : TypeId) (size : Nat) : W.ownsRow base e size (.slice none 0 0) 0 [] := ⟨by simp, .inl ⟨rfl, rfl⟩⟩
theorem own_base {w : World} {base : Nat} {e : TypeId} {size n : Nat} {v : Value} {xs : List Value} (h : w.ownsRow base e size v n xs) (k : Nat) (hk : v.ownBlock = some k) : base ≤ k := by
  rcases h.2 with ⟨rfl, _⟩ | ⟨g, cap, cur, rfl, hb, _⟩
  · simp [Value.ownBlock] at hk
  · have : g = k := by simpa [Value.ownBlock] using hk
    omega
theorem own_base0 {w : World} {base : Nat} {e : TypeId} {size n : Nat} {v : Value} {xs : List Value} (h : w.ownsRow base e size v n xs) : w.ownsRow 0 e size v n xs := by
  obtain ⟨h1, h2⟩ := h
  refine ⟨h1, ?_⟩
  rcases h2 with h2 | ⟨g, cap, cur, rfl, hg, r⟩
  · exact .inl h2
  · exact .inr ⟨g, cap, cur, rfl, Nat.zero_le _, r⟩
end Go.Proofs.YtakoidkeaccgeaaDoor

/- Laws on memory beside the kit's: where the new row of a string's append lies. -/
namespace Go.Proofs.YtakoidkeaccgeaaDoor
open Go.RowKit
open Go.Lib
theorem heap_alloc_new (W : World) (o : Obj) : (W.alloc o).heap[W.heap.size]? = some o := by
  show (W.heap.push o)[W.heap.size]? = _
  simp

theorem heap_alloc_at (W : World) (o : Obj) (n : Nat) (h : n = W.heap.size) : (W.alloc o).heap[n]? = some o := by rw [h]; exact heap_alloc_new W o
theorem own_slice {w : World} {e : TypeId} {base size n : Nat} {v : Value} {xs : List Value} (h : w.ownsRow base e size v n xs) : ∃ A c, v = .slice A n c := by
  rcases h.2 with ⟨rfl, rfl⟩ | ⟨g, cap, cur, rfl, _⟩
  · exact ⟨none, 0, rfl⟩
  · exact ⟨_, _, rfl⟩
theorem own_cut0 {w : World} {e : TypeId} {size m n c : Nat} {A : Option Addr} {xs : List Value} (h : w.ownsRow 0 e size (.slice A m c) n xs) : w.ownsRow 0 e size (.slice A 0 c) 0 [] := by
  refine ⟨by simp, ?_⟩
  rcases h.2 with ⟨he, h0⟩ | ⟨g, cap, cur, he, hb, hg, hn, hc, hs, ht⟩
  · injection he with e1 e2 e3
    subst e1 e3
    exact .inl ⟨rfl, rfl⟩
  · injection he with e1 e2 e3
    subst e1 e3
    exact .inr ⟨g, _, cur, rfl, hb, hg, Nat.zero_le _, hc, hs, by simp⟩
theorem ret_int {k : IntKind} {a b : Int} (h : a = b) : Ending.returned (.int k a) = .returned (.int k b) := by rw [h]
theorem ret_bool {a b : Bool} (h : a = b) : Ending.returned (.bool b) = .returned (.bool a) := by rw [h]
theorem wrap_u64 (n : Int) : IntKind.u64.wrap n = n % 18446744073709551616 := by simp [IntKind.wrap, IntKind.bits, IntKind.signed]
theorem wraps_u64 (n : Int) (h₀ : 0 ≤ n) (h₁ : n < 2 ^ 64) : IntKind.u64.wrap n = n := by rw [wrap_u64]; omega
section
variable {P : Program} (w : World)
theorem append_string_lies (t u ty e : TypeId) (i : TypeInfo) (ht : P.underlying t = some (.slice e)) (hu : P.underlying u = some .string) (hi : P.info? e = some i) (hz : i.zero = some (.int .u8 0))
    (hsize : i.size = 1) (hby : i.bytes = 1) (v : Value) (n : Nat) (xs : List Value) (hown : w.ownsRow 0 e 1 v n xs) (s : ByteArray) (hl : n + s.size ≤ 140737488355328) :
    ∃ v' w', (Builtin.append_ #[t, u] ty #[v, .string s]).run P w = .ok v' w' ∧ w'.ownsRow 0 e 1 v' (n + s.size) (xs ++ strCells s) ∧ w.grownBy w' v.ownBlock ∧
      (∀ k, v'.ownBlock = some k → v.ownBlock = some k ∨ k = w.heap.size) := by
  obtain ⟨v', w', hr, h2, h3, h4⟩ := run_append_own_string (P := P) w 0 t u ty e i ht hu hi hz hsize hby v n xs hown s (by simp only [maxLen]; omega) hl (Nat.zero_le _)
  refine ⟨v', w', hr, h2, h3, ?_⟩
  have hxl : xs.length = n := by simpa using hown.1
  rcases hown.2 with ⟨rfl, rfl⟩ | ⟨g, cap, cur, rfl, hbg, hg, hnc, hcm, hcs, htake⟩
  · by_cases hs : s.size = 0
    · rw [h4.2 ⟨rfl, hs⟩]; intro k hk; simp [Value.ownBlock] at hk
    · have hr2 := run_append_nil_string (P := P) w t u ty e i (.int .u8 0) ht hu hi hz s (by omega) (by omega) (by rw [hby]; omega)
      rw [hr2] at hr
      injection hr with e1 e2
      rw [← e1]; intro k hk; simp [Value.ownBlock] at hk; exact Or.inr hk.symm
  · by_cases hroom : n + s.size ≤ cap
    · have hcs' : cur.size = cap := by simpa using hcs
      have hr2 := run_append_room_string (P := P) w t u ty e i ht hu hi hsize g n cap cur hg s hroom (by omega)
      rw [hr2] at hr
      injection hr with e1 e2
      rw [← e1]; intro k hk; simp [Value.ownBlock] at hk ⊢; exact Or.inl hk
    · have holds : ∀ j u, xs[j]? = some u → w.cell? ((⟨g, 0, none⟩ : Addr).add j) = some u := hown.cells (g := g) rfl
      have hr2 := run_append_grow_string (P := P) w t u ty e i (.int .u8 0) ht hu hi hz ⟨g, 0, none⟩ n cap xs (by rw [hsize]; simpa using hxl) holds s (by omega) (by omega) (by rw [hby]; exact growslice_fits (by omega) (by omega))
      rw [hr2] at hr
      injection hr with e1 e2
      rw [← e1]; intro k hk; simp [Value.ownBlock] at hk; exact Or.inr hk.symm
theorem wpList_append_string {ops : Array Oper} {rest : List Oper} {o : Oper} {a : Act} {Q : Exit → Act → World → Prop} (hgd : o.guard = none) (sl x : Operand) (t u : TypeId)
    (ho : o.op = .call { callee := .builtin .append, args := #[sl, x], argTypes := #[t, u] })
    (e : TypeId) (ht : P.underlying t = some (.slice e)) (hu : P.underlying u = some .string) (hinfo : (P.info? e).map (fun i => (i.zero, i.size, i.bytes)) = some (some (.int .u8 0), 1, 1))
    (v : Value) (n : Nat) (xs : List Value) (hs : a.eval sl = v) (hown : w.ownsRow 0 e 1 v n xs) (s : ByteArray) (hx : a.eval x = .string s) (hl : n + s.size ≤ 140737488355328)
    (h : ∀ v' w', w'.ownsRow 0 e 1 v' (n + s.size) (xs ++ strCells s) → w.grownBy w' v.ownBlock → (∀ k, v'.ownBlock = some k → v.ownBlock = some k ∨ k = w.heap.size) → wpList P ops Q rest (a.put o.dst v') w') : wpList P ops Q (o :: rest) a w := by
  obtain ⟨i0, hi, hzz⟩ := Option.map_eq_some_iff.1 hinfo
  simp only [Prod.mk.injEq] at hzz
  obtain ⟨hz0, hz1, hz2⟩ := hzz
  refine wpList_plain hgd fun K hK => ?_
  obtain ⟨v', w', hr, h2, h3, h4⟩ := append_string_lies (P := P) w t u o.type e i0 ht hu hi hz0 hz1 hz2 v n xs hown s hl
  unfold Oper.wp execOp
  simp only [ho, resolve, invoke, builtin, Sem.run_bind, Sem.run_pure, Result.andThen_ok, List.map_toArray, List.map_cons, List.map_nil, hs, hx, hr]
  exact hK _ _ (h v' w' h2 h3 h4)
end
end Go.Proofs.YtakoidkeaccgeaaDoor

/- Plain lemmas on bits of numbers, the lowest first. -/
namespace Go.Proofs.YtakoidkeaccgeaaDoor

/-- The number at a place; 0 beyond. (A word of its own: the walk does not look into it.) -/
def gN (l : List Nat) (i : Nat) : Nat := l.getD i 0
theorem gN_get (l : List Nat) (i : Nat) (h : i < l.length) : l[i]? = some (gN l i) := by simp [gN, h]
theorem gN_eq (l : List Nat) (i : Nat) (h : i < l.length) : l[i]'h = gN l i := by simp [gN, h]
theorem gN_mem (l : List Nat) (i : Nat) (h : i < l.length) : gN l i ∈ l := by rw [← gN_eq l i h]; exact List.getElem_mem h
theorem gN_set (l : List Nat) (i j x : Nat) : gN (l.set i x) j = if i = j ∧ j < l.length then x else gN l j := by
  unfold gN
  rw [List.getD_eq_getElem?_getD, List.getElem?_set]
  by_cases e : i = j
  · subst e
    by_cases h : i < l.length <;> simp [h]
  · simp [e, List.getD_eq_getElem?_getD]
theorem gN_rep (n x i : Nat) (h : i < n) : gN (List.replicate n x) i = x := by
  unfold gN
  rw [List.getD_eq_getElem?_getD, List.getElem?_replicate, if_pos h]; rfl
theorem gN_out (l : List Nat) (i : Nat) (h : l.length ≤ i) : gN l i = 0 := by
  unfold gN
  rw [List.getD_eq_getElem?_getD, List.getElem?_eq_none h]; rfl
/-- The n lowest bits of v, the lowest first. -/
def nb : Nat → Nat → List Bool
  | 0, _ => []
  | n + 1, v => (v % 2 == 1) :: nb n (v / 2)
/-- The number of bits, the lowest first. -/
def bn : List Bool → Nat
  | [] => 0
  | b :: l => (if b then 1 else 0) + 2 * bn l
theorem nb_length : ∀ n v, (nb n v).length = n
  | 0, _ => rfl
  | n + 1, v => by simp [nb, nb_length n]
theorem nb_mod : ∀ n v, nb n (v % 2 ^ n) = nb n v
  | 0, _ => rfl
  | n + 1, v => by
    have h1 : v % 2 ^ (n + 1) % 2 = v % 2 := Nat.mod_mod_of_dvd _ (by rw [Nat.pow_succ]; exact Nat.dvd_mul_left 2 _)
    have h2 : v % 2 ^ (n + 1) / 2 = v / 2 % 2 ^ n := by rw [Nat.pow_succ, Nat.mul_comm, Nat.mod_mul_right_div_self]
    rw [nb, nb, h1, h2, nb_mod n]
theorem nb_add : ∀ m n v, nb (m + n) v = nb m v ++ nb n (v / 2 ^ m)
  | 0, n, v => by simp [nb]
  | m + 1, n, v => by
    rw [show m + 1 + n = (m + n) + 1 by omega, nb, nb, nb_add m n, Nat.div_div_eq_div_mul, ← Nat.pow_succ', List.cons_append]
theorem nb_join (n k acc v : Nat) (h : acc < 2 ^ n) : nb (n + k) (acc + v % 2 ^ k * 2 ^ n) = nb n acc ++ nb k v := by
  rw [nb_add]
  have h1 : (acc + v % 2 ^ k * 2 ^ n) / 2 ^ n = v % 2 ^ k := by
    rw [Nat.add_mul_div_right _ _ (Nat.two_pow_pos n), Nat.div_eq_of_lt h, Nat.zero_add]
  have h2 : nb n (acc + v % 2 ^ k * 2 ^ n) = nb n acc := by
    rw [← nb_mod n, Nat.add_mul_mod_self_right, nb_mod]
  rw [h1, h2, nb_mod]
theorem bn_nb : ∀ n v, bn (nb n v) = v % 2 ^ n
  | 0, v => by simp [nb, bn, Nat.mod_one]
  | n + 1, v => by
    rw [nb, bn, bn_nb n, Nat.pow_succ, Nat.mul_comm (2 ^ n) 2, Nat.mod_mul]
    have := Nat.mod_two_eq_zero_or_one v
    rcases this with h | h <;> simp [h]
theorem nb_bn : ∀ l : List Bool, nb l.length (bn l) = l
  | [] => rfl
  | b :: l => by
    have h1 : bn (b :: l) / 2 = bn l := by cases b <;> simp [bn] <;> omega
    have h2 : (bn (b :: l) % 2 == 1) = b := by cases b <;> simp [bn] <;> omega
    rw [List.length_cons, nb, h1, h2, nb_bn l]
theorem bn_lt : ∀ l : List Bool, bn l < 2 ^ l.length
  | [] => by simp [bn]
  | b :: l => by
    have := bn_lt l
    have h2 : 2 ^ (l.length + 1) = 2 * 2 ^ l.length := Nat.pow_succ' ..
    simp only [bn, List.length_cons]
    split <;> omega
/-- The bits of bytes. -/
def byb (l : List Nat) : List Bool := l.flatMap (nb 8)
theorem byb_append (l m : List Nat) : byb (l ++ m) = byb l ++ byb m := by simp [byb]
theorem byb_one (d : Nat) : byb [d] = nb 8 d := by simp [byb]
theorem byb_length : ∀ l : List Nat, (byb l).length = 8 * l.length
  | [] => rfl
  | d :: l => by
    have := byb_length l
    simp only [byb, List.flatMap_cons, List.length_append, nb_length, List.length_cons] at *
    omega

def spillDone : Nat → List Nat → Nat → Nat → List Nat
  | 0, done, _, _ => done
  | k + 1, done, acc, n => if 8 ≤ n then spillDone k (done ++ [acc % 256]) (acc / 256) (n - 8) else done
theorem spill_bits : ∀ (k : Nat) (done : List Nat) (acc n : Nat), n ≤ k → byb (spillDone k done acc n) ++ nb (n % 8) (acc / 256 ^ (n / 8)) = byb done ++ nb n acc
  | 0, done, acc, n, h => by
    obtain rfl : n = 0 := by omega
    simp [spillDone]
  | k + 1, done, acc, n, h => by
    unfold spillDone
    split
    · rename_i h8
      have := spill_bits k (done ++ [acc % 256]) (acc / 256) (n - 8) (by omega)
      have e1 : (n - 8) % 8 = n % 8 := by omega
      have e2 : acc / 256 / 256 ^ ((n - 8) / 8) = acc / 256 ^ (n / 8) := by
        rw [Nat.div_div_eq_div_mul, ← Nat.pow_succ']
        congr 2
        omega
      have e3 : nb n acc = nb 8 acc ++ nb (n - 8) (acc / 256) := by
        have := nb_add 8 (n - 8) acc
        rw [show 8 + (n - 8) = n by omega] at this
        exact this
      rw [e1, e2] at this
      rw [this, byb_append, byb_one, e3, List.append_assoc]
      congr 2
      exact nb_mod 8 acc
    · rename_i h8
      rw [show n % 8 = n by omega, show n / 8 = 0 by omega]
      simp
theorem spill_length : ∀ (k : Nat) (done : List Nat) (acc n : Nat), n ≤ k → (spillDone k done acc n).length = done.length + n / 8
  | 0, done, acc, n, h => by
    obtain rfl : n = 0 := by omega
    simp [spillDone]
  | k + 1, done, acc, n, h => by
    unfold spillDone
    split
    · rw [spill_length k _ _ _ (by omega)]; simp; omega
    · omega
theorem spill_bytes : ∀ (k : Nat) (done : List Nat) (acc n : Nat), (∀ d ∈ done, d < 256) → ∀ d ∈ spillDone k done acc n, d < 256
  | 0, done, acc, n, h => h
  | k + 1, done, acc, n, h => by
    unfold spillDone
    split
    · refine spill_bytes k _ _ _ ?_
      intro d hd
      rcases List.mem_append.1 hd with hd | hd
      · exact h d hd
      · simp at hd; omega
    · exact h
theorem spill_acc (acc n : Nat) (h : acc < 2 ^ n) : acc / 256 ^ (n / 8) < 2 ^ (n % 8) := by
  rw [show (256 : Nat) = 2 ^ 8 by rfl, ← Nat.pow_mul]
  refine Nat.div_lt_of_lt_mul ?_
  rw [← Nat.pow_add, show 8 * (n / 8) + n % 8 = n by omega]
  exact h
end Go.Proofs.YtakoidkeaccgeaaDoor

/- Rows of memory: slices with a known place. -/
namespace Go.Proofs.YtakoidkeaccgeaaDoor
open Go.RowKit

/-- A row of n elements (size cells each) of element type e that holds the cells xs; its block is one of S. -/
def Row (w : World) (S : Nat → Prop) (e : TypeId) (size : Nat) (v : Value) (n : Nat) (xs : List Value) : Prop :=
  xs.length = n * size ∧ ((v = .slice none 0 0 ∧ n = 0) ∨
    ∃ g off cap cur, v = .slice (some ⟨g, off, none⟩) n cap ∧ S g ∧ w.heap[g]? = some (.cells cur e (0, 0)) ∧ n ≤ cap ∧ cap ≤ maxLen ∧ off + cap * size ≤ cur.size ∧ (cur.toList.drop off).take (n * size) = xs)

section
variable {w w' : World} {S T : Nat → Prop} {e : TypeId} {size n : Nat} {v : Value} {xs : List Value}
theorem Row.of_own {base : Nat} (h : w.ownsRow base e size v n xs) (hS : ∀ k, v.ownBlock = some k → S k) : Row w S e size v n xs := by
  refine ⟨h.1, ?_⟩
  rcases h.2 with h2 | ⟨g, cap, cur, rfl, hb, hg, hn, hc, hs, ht⟩
  · exact .inl h2
  · exact .inr ⟨g, 0, cap, cur, rfl, hS g (by simp [Value.ownBlock]), hg, hn, hc, by omega, by simpa using ht⟩
theorem Row.mono (h : Row w S e size v n xs) (hT : ∀ k, S k → T k) : Row w T e size v n xs := by
  refine ⟨h.1, ?_⟩
  rcases h.2 with h2 | ⟨g, off, cap, cur, rfl, hS, r⟩
  · exact .inl h2
  · exact .inr ⟨g, off, cap, cur, rfl, hT _ hS, r⟩
theorem Row.tight (h : Row w S e size v n xs) : Row w (fun k => S k ∧ k < w.heap.size) e size v n xs := by
  refine ⟨h.1, ?_⟩
  rcases h.2 with h2 | ⟨g, off, cap, cur, rfl, hS, hg, r⟩
  · exact .inl h2
  · exact .inr ⟨g, off, cap, cur, rfl, ⟨hS, (Array.getElem?_eq_some_iff.1 hg).1⟩, hg, r⟩
theorem Row.chg (h : Row w S e size v n xs) (hc : Chg T w w') (hn : ∀ k, S k → k < w.heap.size → ¬ T k) : Row w' S e size v n xs := by
  refine ⟨h.1, ?_⟩
  rcases h.2 with h2 | ⟨g, off, cap, cur, rfl, hS, hg, r⟩
  · exact .inl h2
  · exact .inr ⟨g, off, cap, cur, rfl, hS, hc.blk hg (hn g hS (Array.getElem?_eq_some_iff.1 hg).1), r⟩
theorem Row.drewN (h : Row w S e size v n xs) (m : Nat) : Row (w.drewN m) S e size v n xs := h
theorem Row.form (h : Row w S e size v n xs) : ∃ A c, v = .slice A n c ∧ n ≤ maxLen ∧ (0 < n → ∃ g off, A = some ⟨g, off, none⟩ ∧ S g ∧ g < w.heap.size) := by
  rcases h.2 with ⟨rfl, rfl⟩ | ⟨g, off, cap, cur, rfl, hS, hg, hn, hc, r⟩
  · exact ⟨none, 0, rfl, Nat.zero_le _, fun h => by omega⟩
  · exact ⟨_, cap, rfl, Nat.le_trans hn hc, fun _ => ⟨g, off, rfl, hS, (Array.getElem?_eq_some_iff.1 hg).1⟩⟩
theorem Row.cell {g off c : Nat} (h : Row w S e size (.slice (some ⟨g, off, none⟩) n c) n xs) (j : Nat) (hj : j < n * size) : w.cell? ⟨g, off + j, none⟩ = xs[j]? := by
  rcases h.2 with ⟨h1, _⟩ | ⟨g', off', cap, cur, he, hS, hg, hn, hc, hs, ht⟩
  · cases h1
  · injection he with e1 e2 e3
    injection e1 with e1
    injection e1 with e1 e4
    subst e1 e4
    rw [World.cell?, hg]
    have hm : n * size ≤ cap * size := Nat.mul_le_mul_right _ hn
    have : xs[j]? = cur[off + j]? := by
      rw [← ht, List.getElem?_take, if_pos hj, List.getElem?_drop]
      simp
    rw [this]
    simp
theorem Row.at_ (h : Row w S e size v n xs) (A : Option Addr) (c : Nat) (hv : v = .slice A n c) (j : Nat) (hj : j < n * size) : ∃ g off, A = some ⟨g, off, none⟩ ∧ S g ∧ g < w.heap.size ∧ w.cell? ⟨g, off + j, none⟩ = xs[j]? := by
  subst hv
  rcases h.2 with ⟨_, rfl⟩ | ⟨g, off, cap, cur, he, hS, hg, _⟩
  · simp at hj
  · injection he with e1 e2 e3
    subst e1
    exact ⟨g, off, rfl, hS, (Array.getElem?_eq_some_iff.1 hg).1, h.cell j hj⟩
theorem Row.nil (w : World) (S : Nat → Prop) (e : TypeId) (size : Nat) : Row w S e size (.slice none 0 0) 0 [] := ⟨by simp, .inl ⟨rfl, rfl⟩⟩
/-- A part of a row. -/
theorem Row.cut {c g off : Nat} (h : Row w S e size (.slice (some ⟨g, off, none⟩) n c) n xs) (i j c' : Nat) (hij : i ≤ j) (hj : j ≤ n) (hc' : j - i ≤ c') (hc2 : i + c' ≤ c) :
    Row w S e size (.slice (some ⟨g, off + i * size, none⟩) (j - i) c') (j - i) ((xs.drop (i * size)).take ((j - i) * size)) := by
  rcases h.2 with ⟨h1, _⟩ | ⟨g', off', cap, cur, he, hS, hg, hn, hc, hs, ht⟩
  · cases h1
  · injection he with e1 e2 e3
    injection e1 with e1
    injection e1 with e1 e4
    subst e1 e4 e3
    have m1 : (j - i) * size ≤ (n - i) * size := Nat.mul_le_mul_right _ (by omega)
    have m2 : (n - i) * size = n * size - i * size := Nat.sub_mul ..
    have m3 : (i + c') * size ≤ c * size := Nat.mul_le_mul_right _ hc2
    rw [Nat.add_mul] at m3
    refine ⟨by rw [List.length_take, List.length_drop, h.1]; omega, .inr ⟨g, off + i * size, c', cur, rfl, hS, hg, hc', by omega, by omega, ?_⟩⟩
    rw [← ht, List.drop_take, List.take_take, List.drop_drop, Nat.min_eq_left (by omega)]
end
/-- Whole numbers as cells. -/
def nis (l : List Nat) : List Value := l.map fun n : Nat => .int .i64 (n : Int)
theorem nis_length (l : List Nat) : (nis l).length = l.length := by simp [nis]
theorem nis_append (l m : List Nat) : nis (l ++ m) = nis l ++ nis m := by simp [nis]
theorem nis_at (l : List Nat) (i : Nat) (h : i < l.length) : (nis l)[i]? = some (.int .i64 (gN l i : Int)) := by
  simp [nis, gN_get l i h]
theorem nis_set (l : List Nat) (i x : Nat) : (nis l).set i (.int .i64 (x : Int)) = nis (l.set i x) := by simp [nis]
end Go.Proofs.YtakoidkeaccgeaaDoor
