/- merge: the sort of what is used. -/
import Derived.Test.YtakoidkeaccgeaaDoorJ5
import Derived.Lib.OwnBridge
namespace Go.Proofs.YtakoidkeaccgeaaDoor
open Go.RowKit Go.Shelf Go.Sort

theorem ltU (c : List Nat) (x y : Nat) : ltOf (cfU c) x y = decide (gN c x < gN c y ∨ (gN c x = gN c y ∧ y < x)) := by
  unfold ltOf cfU orI Lib.compareInt
  by_cases h1 : gN c x < gN c y
  · have h1' : (gN c x : Int) < (gN c y : Int) := by omega
    simp [h1, h1']
  · have h1' : ¬ (gN c x : Int) < (gN c y : Int) := by omega
    by_cases h2 : gN c y < gN c x
    · have h2' : (gN c y : Int) < (gN c x : Int) := by omega
      have h3 : ¬ gN c x = gN c y := by omega
      simp [h1, h1', h2', h3]
    · have h2' : ¬ (gN c y : Int) < (gN c x : Int) := by omega
      have h3 : gN c x = gN c y := by omega
      by_cases h4 : y < x
      · have h4' : (y : Int) < (x : Int) := by omega
        simp [h3, h4, h4']
      · have h4' : ¬ (y : Int) < (x : Int) := by omega
        by_cases h5 : x < y
        · have h5' : (x : Int) < (y : Int) := by omega
          simp [h3, h4, h4', h5']
        · have h5' : ¬ (x : Int) < (y : Int) := by omega
          simp [h3, h4, h4', h5']
def srt (c l : List Nat) : List Nat := l.mergeSort fun x y => !ltOf (cfU c) y x
theorem srt_length (c l : List Nat) : (srt c l).length = l.length := List.length_mergeSort _
def cfF (c : List Nat) (x y : Fin c.length) : Int := cfU c x y
theorem ltF (c : List Nat) (x y : Fin c.length) : ltOf (cfF c) x y = ltOf (cfU c) x y := rfl
theorem swoF (c : List Nat) : SWO (ltOf (cfF c)) where
  irrefl x := by rw [ltF, ltU]; simp
  trans x y z h1 h2 := by rw [ltF, ltU] at *; simp at *; omega
  ntrans x y z h1 h2 := by rw [ltF, ltU] at *; simp at *; omega
theorem totF (c : List Nat) (x y : Fin c.length) (h1 : ltOf (cfF c) x y = false) (h2 : ltOf (cfF c) y x = false) : x = y := by
  rw [ltF, ltU] at *
  simp at *
  apply Fin.ext
  omega
theorem sortWorld_chg {α : Type} [Inhabited α] (enc : α → Value) (w : World) (g m : Nat) (d : Array α) (os : Array Obj) : Chg (fun k => k = g) w (sortWorld enc w g 0 m d os) := by
  refine ⟨rfl, rfl, rfl, ?_, fun k hk hn => ?_⟩
  · show w.heap.size ≤ ((putRow enc (Sort.ahead w m) g 0 d).heap ++ os).size
    rw [Array.size_append, size_putRow]
    exact Nat.le_add_right _ _
  · show ((putRow enc (Sort.ahead w m) g 0 d).heap ++ os)[k]? = _
    rw [Array.getElem?_append_left (by rw [size_putRow]; exact hk)]
    show (w.heap.modify g _)[k]? = _
    rw [Array.getElem?_modify, if_neg (fun e => hn e.symm)]
def encF (n : Nat) (x : Fin n) : Value := .int .i64 ((x : Nat) : Int)

theorem sort_calls (base bx : Nat) (S : Nat → Prop) (cv v : Value) (c l : List Nat) (w : World) (hown : w.ownsRow base 3 1 v l.length (nis l)) (hb : w.cell? ⟨bx, 0, none⟩ = some cv) (hr : Row w S 3 1 cv c.length (nis c))
    (hl : ∀ x ∈ l, x < c.length) (hlen : l.length ≤ 1000000) (hne : ∀ k, v.ownBlock = some k → ¬ S k ∧ k ≠ bx) :
    Calls Tryd.prog 84 #[v, .func (.func 85) #[] #[.pointer (some ⟨bx, 0, none⟩)]] w fun e w' => e = .returned (.tuple #[]) ∧
      w'.ownsRow base 3 1 v l.length (nis (srt c l)) ∧ Chg (fun k => v.ownBlock = some k) w w' := by
  by_cases h0 : l.length = 0
  · have hnil : l = [] := List.eq_nil_of_length_eq_zero h0
    subst hnil
    obtain ⟨A, k, rfl⟩ := own_slice hown
    refine (AnyF.slices_SortFunc_none (P := Tryd.prog) (ρ := Tryd.sortL_ren) { Tryd.sortL with } A k (.func (.func 85) #[] #[.pointer (some ⟨bx, 0, none⟩)]) w).mono ?_
    rintro e w' ⟨rfl, rfl⟩
    exact ⟨rfl, by simpa [srt] using hown, Chg.refl _ _⟩
  · obtain ⟨x0, hx0⟩ : ∃ x, x ∈ l := List.exists_mem_of_length_pos (by omega)
    have hc0 : 0 < c.length := by have := hl x0 hx0; omega
    haveI : Inhabited (Fin c.length) := ⟨⟨0, hc0⟩⟩
    let lf : List (Fin c.length) := l.pmap (fun x h => (⟨x, h⟩ : Fin c.length)) hl
    have hval : lf.map (fun x : Fin c.length => x.val) = l := by simp [lf, List.map_pmap]
    have hll : lf.length = l.length := by simp [lf]
    have hcells : ∀ m : List (Fin c.length), nis (m.map (fun x : Fin c.length => x.val)) = m.map (encF c.length) := fun m => by simp [nis, encF]
    have hown2 : w.ownsRow base 3 1 v l.length (lf.map (encF c.length)) := by rw [← hcells, hval]; exact hown
    have hv : v ≠ .slice none 0 0 := by
      rintro rfl
      rcases hown.2 with ⟨_, h⟩ | ⟨g, cap, cur, he, _⟩
      · exact h0 h
      · cases he
    obtain ⟨g, cap, rfl, hg, hgl, hnc, hcm, _, hH⟩ := Lib.holds_of_ownsRow hown2 hv
    have hgn := hne g (by simp [Value.ownBlock])
    have hsz : lf.toArray.size = l.length := by simpa using hll
    have hcmp : CmpLays1 Tryd.prog 85 #[.pointer (some ⟨bx, 0, none⟩)] (encF c.length) (cfF c) g 0 lf.toArray.size w := by
      intro m os dk hs x y
      have hch := sortWorld_chg (encF c.length) w g m dk os
      exact usedCmp_calls bx S cv c x y _ (hch.cell hb (fun e => hgn.2 e.symm)) (hr.chg hch (fun k hk _ e => hgn.1 (e ▸ hk))) x.2 y.2
    have hS := Any.slices_SortFunc_total (P := Tryd.prog) Tryd.sortL (encF c.length) (fun _ => rfl) (cfF c) (swoF c) 85 #[.pointer (some ⟨bx, 0, none⟩)] g 0 cap lf.toArray w
      (enters_of Tryd.func85 (by kernel_rfl) rfl) hcmp hH hgl (by rw [hsz]; omega) (totF c)
    rw [hsz] at hS
    refine hS.mono ?_
    rintro e w' ⟨rfl, n, os, rfl⟩
    refine ⟨rfl, ?_, (sortWorld_chg _ _ _ _ _ _).mono (fun k hk => by rw [hk]; rfl)⟩
    have hms : (lf.mergeSort fun x y => !ltOf (cfF c) y x).map (fun x : Fin c.length => x.val) = srt c l := by
      have := List.map_mergeSort (r := fun x y : Fin c.length => !ltOf (cfF c) y x) (s := fun x y => !ltOf (cfU c) y x) (f := fun x : Fin c.length => x.val) (l := lf) (fun a _ b _ => rfl)
      rw [this, hval]
      rfl
    have hml : (lf.mergeSort fun x y => !ltOf (cfF c) y x).length = l.length := by rw [List.length_mergeSort, hll]
    have hput := Lib.ownsRow_putRow (q := n) (k := l.length) hown2 hml (Nat.le_refl _)
    rw [List.take_of_length_le (by rw [hml]; exact Nat.le_refl _), ← hcells, hms] at hput
    have hgrow : Chg (fun _ => False) (putRow (encF c.length) (Sort.ahead w n) g 0 (lf.mergeSort fun x y => !ltOf (cfF c) y x).toArray) (sortWorld (encF c.length) w g 0 n (lf.mergeSort fun x y => !ltOf (cfF c) y x).toArray os) := by
      refine ⟨rfl, rfl, rfl, ?_, fun k hk _ => ?_⟩
      · show _ ≤ (_ ++ os).size
        rw [Array.size_append]; exact Nat.le_add_right _ _
      · show (_ ++ os)[k]? = _
        rw [Array.getElem?_append_left hk]
    exact hgrow.own hput (fun _ _ h => h)
end Go.Proofs.YtakoidkeaccgeaaDoor

/- merge: used, wrong. -/
namespace Go.Proofs.YtakoidkeaccgeaaDoor
open Go.RowKit Go.Shelf Go.Sort

def usedL (c : List Nat) : Nat → List Nat
  | 0 => []
  | k + 1 => if 0 < gN c k then usedL c k ++ [k] else usedL c k
theorem usedL_length (c : List Nat) : ∀ k, (usedL c k).length ≤ k
  | 0 => Nat.le_refl _
  | k + 1 => by
    have := usedL_length c k
    unfold usedL
    split
    · simp; omega
    · omega
theorem usedL_lt (c : List Nat) : ∀ k, ∀ x ∈ usedL c k, x < k
  | 0, x, h => by simp [usedL] at h
  | k + 1, x, h => by
    unfold usedL at h
    split at h
    · rcases List.mem_append.1 h with h | h
      · have := usedL_lt c k x h; omega
      · simp at h; omega
    · have := usedL_lt c k x h; omega
def orderN (c : List Nat) : List Nat := srt c (usedL c c.length)
theorem orderN_length (c : List Nat) : (orderN c).length ≤ c.length := by
  unfold orderN; rw [srt_length]; exact usedL_length c _
theorem orderN_len (c : List Nat) : (orderN c).length = (usedL c c.length).length := srt_length _ _
theorem orderN_lt (c : List Nat) : ∀ x ∈ orderN c, x < c.length := by
  intro x hx
  unfold orderN srt at hx
  exact usedL_lt c _ x (List.mem_mergeSort.1 hx)

set_option maxHeartbeats 3200000 in
set_option maxRecDepth 100000 in
theorem used_calls (S : Nat → Prop) (v : Value) (c : List Nat) (w : World) (hr : Row w S 3 1 v c.length (nis c)) (hlen : c.length ≤ 1000) :
    Calls Tryd.prog 68 #[v] w fun e w' => ∃ v', e = .returned v' ∧ w'.ownsRow w.heap.size 3 1 v' (orderN c).length (nis (orderN c)) ∧ Chg (fun _ => False) w w' := by
  obtain ⟨A, k0, rfl, hm, hA⟩ := hr.form
  obtain ⟨ii, hii, hi0, hi1, hi2⟩ := info_parts infoInt
  have hrt := hr.tight
  have HR := Lib.hid hrt
  clear hr hA hrt
  unfold maxLen at hm
  go_enter Tryd.func68, Tryd.ntmps68
  go_wp2
  have hbk : Blk (w.alloc (.cells #[.slice A c.length k0] 22)) w.heap.size [.slice A c.length k0] 22 := Blk.new w _ _
  have hch0 : Chg (fun _ => False) w (w.alloc (.cells #[.slice A c.length k0] 22)) := (Chg.refl _ _).alloc _
  have hsz0 : (w.alloc (.cells #[.slice A c.length k0] 22)).heap.size = w.heap.size + 1 := by simp
  have HBK := Lib.hid hbk
  have HC0 := Lib.hid hch0
  have HZ0 := Lib.hid hsz0
  clear hbk hch0 hsz0
  generalize w.alloc (.cells #[.slice A c.length k0] 22) = w0 at *
  go_loopw [3, 8] (fun o i W => ∃ k : Nat, k ≤ c.length ∧ i = .int .i64 (k : Int) ∧ Hid (W.ownsRow w0.heap.size 3 1 o (usedL c k).length (nis (usedL c k))) ∧ Hid (Chg (fun _ => False) w0 W)) (fun _ i _ => c.length - (intOf i).toNat)
  case atStart => exact ⟨0, Nat.zero_le _, rfl, own_nil _ _ _ _, Chg.refl _ _⟩
  case round =>
    obtain ⟨k, hk, rfl, HO, HC⟩ := hrel
    have hch := HC0.out.trans HC.out (fun _ h => h.elim)
    have HCW := Lib.hid hch
    have hszw := HC.out.size
    clear hch
    by_cases hlt : k < c.length
    · obtain ⟨g, off, rfl, _, _, hcell⟩ := (HR.out.chg HCW.out (fun _ _ _ h => h)).at_ A k0 rfl k (by omega)
      rw [nis_at c k hlt] at hcell
      have hlt2 : (k : Int) < (c.length : Int) := by omega
      have hul := usedL_length c k
      by_cases hz : 0 < gN c k
      · have hz' : (0 : Int) < (gN c k : Int) := by omega
        have hst : usedL c (k + 1) = usedL c k ++ [k] := if_pos hz
        have HST := Lib.hid hst
        clear hst
        go_wp2_with (at_builtin; go_loud (refine wpList_append_lies _ rfl (.tmp 15) (.tmp 17) 22 rfl w0.heap.size 3 ii _ 1 8 Tryd.underlying22 hii hi0 hi1 hi2 rfl (by omega) _ (usedL c k).length (nis (usedL c k)) rfl (HO.out.alloc _) ⟨wr.heap.size, 0, none⟩ 1 1 [.int .i64 (k : Int)] rfl rfl (World.news_of_block (cs := #[.int .i64 (k : Int)]) (t := 3) (fr := (0, 0)) (heap_alloc_new wr _)) (by simp [Value.oneCell']) (by omega) (by unfold maxLen; omega) (by omega) (by simp; omega) _ rfl ?_); intro gg cap w4 hown4 hgrow hat hlt4)
        go_roundw
        case rel => exact ⟨k + 1, by omega, by go_num, by rw [HST.out, List.length_append, nis_append]; exact hown4, (HC.out.alloc _).grown hgrow (fun i hi => Or.inr (own_base HO.out i hi))⟩
        case measure => simp [intOf]; omega
      · have hz' : ¬ (0 : Int) < (gN c k : Int) := by omega
        have hst : usedL c (k + 1) = usedL c k := if_neg hz
        have HST := Lib.hid hst
        clear hst
        go_wp2
        go_roundw
        case rel => exact ⟨k + 1, by omega, by go_num, by rw [HST.out]; exact HO.out, HC.out⟩
        case measure => simp [intOf]; omega
    · obtain rfl : k = c.length := by omega
      go_wp2_with fail
      have hbk := HBK.out.chg HC.out (fun h => h)
      have hz0 := HZ0.out
      refine (sort_calls w0.heap.size w.heap.size _ (.slice A c.length k0) _ c (usedL c c.length) wr HO.out (hbk.cell 0) (HR.out.chg HCW.out (fun _ _ _ h => h)) (usedL_lt c _) (by have := usedL_length c c.length; omega) ?_).mono ?_
      · intro i hi
        have := own_base HO.out i hi
        exact ⟨fun hx => by omega, by omega⟩
      · rintro e w5 ⟨rfl, ho5, hc5⟩
        have hfin := own_lower (base' := w.heap.size) ho5 (by omega)
        rw [← orderN_len, show srt c (usedL c c.length) = orderN c from rfl] at hfin
        have HF := Lib.hid hfin
        have HC5 := Lib.hid hc5
        clear hfin hc5 ho5 hbk
        go_wp2
        go_returns
        exact ⟨_, rfl, HF.out, HCW.out.trans HC5.out (fun i hi => Or.inr (by have := own_base HO.out i hi; omega))⟩
end Go.Proofs.YtakoidkeaccgeaaDoor

/- merge: packs in memory. -/
namespace Go.Proofs.YtakoidkeaccgeaaDoor
open Go.RowKit Go.Shelf Go.Sort

theorem Chg.cell_eq {S : Nat → Prop} {w w' : World} (h : Chg S w w') (p : Addr) (hlt : p.block < w.heap.size) (hn : ¬ S p.block) : w'.cell? p = w.cell? p := World.cell?_of_block (w := w) (h.block p.block hlt hn)
theorem Row.lit (w : World) (cs : Array Value) (e : TypeId) (n : Nat) (hn : n ≤ maxLen) (hs : cs.size = n) : Row (w.alloc (.cells cs e)) (fun _ => True) e 1 (.slice (some ⟨w.heap.size, 0, none⟩) n n) n cs.toList :=
  ⟨by simpa using hs, .inr ⟨w.heap.size, 0, n, cs, rfl, trivial, heap_alloc_new w _, Nat.le_refl _, hn, by omega, by rw [List.drop_zero, List.take_of_length_le (by simp; omega)]⟩⟩
/-- What is appended to is of another type than the row. -/
theorem Row.grown_type {w w' : World} {S : Nat → Prop} {e e' : TypeId} {size size' n m base : Nat} {v x : Value} {xs ys : List Value} (h : Row w S e size v n xs) (ho : w.ownsRow base e' size' x m ys) (hg : w.grownBy w' x.ownBlock) (hne : e ≠ e') : Row w' S e size v n xs := by
  refine ⟨h.1, ?_⟩
  rcases h.2 with h2 | ⟨g, off, cap, cur, rfl, hS, hgg, r⟩
  · exact .inl h2
  · refine .inr ⟨g, off, cap, cur, rfl, hS, ?_, r⟩
    rw [← hgg]
    refine hg.block g (Array.getElem?_eq_some_iff.1 hgg).1 ?_
    intro he
    rcases ho.2 with ⟨rfl, _⟩ | ⟨g', cap', cur', rfl, _, hh', _⟩
    · simp [Value.ownBlock] at he
    · have : g = g' := by simpa [Value.ownBlock] using he
      subst this
      rw [hgg] at hh'
      injection hh' with hh'
      injection hh' with _ ht
      exact hne ht

def sliceLen : Value → Nat
  | .slice _ n _ => n
  | _ => 0
theorem own_ne {w : World} {base g : Nat} {e : TypeId} {size n : Nat} {v : Value} {xs : List Value} (h : w.ownsRow base e size v n xs) (hg : g < base) : v.ownBlock ≠ some g := fun he => by
  have := own_base h g he
  omega
theorem nis_one (l : List Nat) : OneC (nis l) := by
  intro u hu
  simp only [nis, List.mem_map] at hu
  obtain ⟨n, _, rfl⟩ := hu
  rfl
theorem concat2_calls (S : Nat → Prop) (v va vb : Value) (la lb : List Nat) (w : World) (hr : Row w (fun _ => True) 22 1 v 2 [va, vb]) (ha : Row w S 3 1 va la.length (nis la)) (hb : Row w S 3 1 vb lb.length (nis lb)) (hla : la.length ≤ 100000) (hlb : lb.length ≤ 100000) :
    Calls Tryd.prog 48 #[v] w fun e w' => ∃ v', e = .returned v' ∧ w'.ownsRow w.heap.size 3 1 v' (la.length + lb.length) (nis (la ++ lb)) ∧ Chg (fun _ => False) w w' := by
  have hsm : sumL [(va, la.length, nis la), (vb, lb.length, nis lb)] 2 = la.length + lb.length := by simp [sumL]
  have hct : catL [(va, la.length, nis la), (vb, lb.length, nis lb)] 2 = nis (la ++ lb) := by simp [catL, nis_append]
  refine (concatI_calls (fun _ => True) v [(va, la.length, nis la), (vb, lb.length, nis lb)] w hr ?_ ?_ (by simp)).mono ?_
  · intro r hr
    rcases List.mem_cons.1 hr with rfl | hr
    · exact ⟨ha.mono (fun _ _ => trivial), nis_one la⟩
    · rcases List.mem_cons.1 hr with rfl | hr
      · exact ⟨hb.mono (fun _ _ => trivial), nis_one lb⟩
      · cases hr
  · show sumL _ 2 ≤ _
    rw [hsm]; omega
  · rintro e w5 ⟨v5, rfl, ho5, hc5⟩
    refine ⟨v5, rfl, ?_, hc5⟩
    rw [← hsm, ← hct]
    exact ho5
/-- The cells of packs. -/
def PC (w : World) (S : Nat → Prop) : List (Nat × List Nat) → List Value → Prop
  | [], cs => cs = []
  | p :: ps, cs => ∃ v rest, cs = .int .i64 (p.1 : Int) :: v :: rest ∧ Row w S 3 1 v p.2.length (nis p.2) ∧ PC w S ps rest
section
variable {w w' : World} {S T : Nat → Prop}
theorem PC.length : ∀ {ps : List (Nat × List Nat)} {cs : List Value}, PC w S ps cs → cs.length = ps.length * 2
  | [], cs, h => by rw [show cs = [] from h]; rfl
  | p :: ps, cs, ⟨v, rest, hc, _, h⟩ => by rw [hc, List.length_cons, List.length_cons, PC.length h, List.length_cons]; omega
theorem PC.imp {w' : World} (hi : ∀ v n xs, Row w S 3 1 v n xs → Row w' T 3 1 v n xs) : ∀ {ps : List (Nat × List Nat)} {cs : List Value}, PC w S ps cs → PC w' T ps cs
  | [], _, h => h
  | _ :: _, _, ⟨v, rest, hc, hr, h⟩ => ⟨v, rest, hc, hi _ _ _ hr, PC.imp hi h⟩
theorem PC.chg {ps : List (Nat × List Nat)} {cs : List Value} (h : PC w S ps cs) (hc : Chg T w w') (hn : ∀ k, S k → k < w.heap.size → ¬ T k) : PC w' S ps cs := h.imp fun _ _ _ hr => hr.chg hc hn
theorem PC.mono {ps : List (Nat × List Nat)} {cs : List Value} (h : PC w S ps cs) (hT : ∀ k, S k → T k) : PC w T ps cs := h.imp fun _ _ _ hr => hr.mono hT
theorem PC.tight {ps : List (Nat × List Nat)} {cs : List Value} (h : PC w S ps cs) : PC w (fun k => S k ∧ k < w.heap.size) ps cs := h.imp fun _ _ _ hr => hr.tight
theorem PC.append : ∀ {ps qs : List (Nat × List Nat)} {cs ds : List Value}, PC w S ps cs → PC w S qs ds → PC w S (ps ++ qs) (cs ++ ds)
  | [], qs, cs, ds, h, h' => by rw [show cs = [] from h]; exact h'
  | p :: ps, qs, cs, ds, ⟨v, rest, hc, hr, h⟩, h' => ⟨v, rest ++ ds, by rw [hc]; rfl, hr, h.append h'⟩
theorem PC.one {c : Nat} {l : List Nat} {v : Value} (h : Row w S 3 1 v l.length (nis l)) : PC w S [(c, l)] [.int .i64 (c : Int), v] := ⟨v, [], rfl, h, rfl⟩
def gP (ps : List (Nat × List Nat)) (i : Nat) : Nat × List Nat := ps.getD i (0, [])
theorem gP_mem (ps : List (Nat × List Nat)) (i : Nat) (h : i < ps.length) : gP ps i ∈ ps := by
  unfold gP
  rw [List.getD_eq_getElem?_getD, List.getElem?_eq_getElem h]
  exact List.getElem_mem h
theorem PC.at_ : ∀ {ps : List (Nat × List Nat)} {cs : List Value}, PC w S ps cs → ∀ i, i < ps.length → ∃ v, cs[i * 2]? = some (.int .i64 ((gP ps i).1 : Int)) ∧ cs[i * 2 + 1]? = some v ∧ Row w S 3 1 v (gP ps i).2.length (nis (gP ps i).2)
  | p :: ps, cs, ⟨v, rest, hc, hr, h⟩, 0, _ => ⟨v, by rw [hc]; rfl, by rw [hc]; rfl, hr⟩
  | p :: ps, cs, ⟨v, rest, hc, hr, h⟩, i + 1, hi => by
    obtain ⟨u, h1, h2, h3⟩ := h.at_ i (by simpa using hi)
    refine ⟨u, ?_, ?_, h3⟩
    · rw [hc, show (i + 1) * 2 = i * 2 + 1 + 1 by omega]; exact h1
    · rw [hc, show (i + 1) * 2 + 1 = i * 2 + 1 + 1 + 1 by omega]; exact h2
theorem PC.drop : ∀ {ps : List (Nat × List Nat)} {cs : List Value} (i : Nat), PC w S ps cs → PC w S (ps.drop i) (cs.drop (i * 2))
  | ps, cs, 0, h => by simpa using h
  | [], cs, i + 1, h => by rw [show cs = [] from h]; simp [PC]
  | p :: ps, cs, i + 1, ⟨v, rest, hc, hr, h⟩ => by
    have := PC.drop i h
    rw [hc, show (i + 1) * 2 = i * 2 + 1 + 1 by omega]
    exact this
theorem PC.take : ∀ {ps : List (Nat × List Nat)} {cs : List Value} (i : Nat), PC w S ps cs → PC w S (ps.take i) (cs.take (i * 2))
  | ps, cs, 0, h => by simp [PC]
  | [], cs, i + 1, h => by rw [show cs = [] from h]; simp [PC]
  | p :: ps, cs, i + 1, ⟨v, rest, hc, hr, h⟩ => by
    have := PC.take i h
    rw [hc, show (i + 1) * 2 = i * 2 + 1 + 1 by omega]
    exact ⟨v, rest.take (i * 2), rfl, hr, this⟩
theorem PC.oneC : ∀ {ps : List (Nat × List Nat)} {cs : List Value}, PC w S ps cs → OneC cs
  | [], cs, h => by rw [show cs = [] from h]; intro u hu; cases hu
  | p :: ps, cs, ⟨v, rest, hc, hr, h⟩ => by
    rw [hc]
    intro u hu
    rcases List.mem_cons.1 hu with rfl | hu
    · rfl
    · rcases List.mem_cons.1 hu with rfl | hu
      · obtain ⟨A, c, rfl, _⟩ := hr.form
        rfl
      · exact h.oneC u hu
end
/-- A slice of packs. -/
def Packs (w : World) (S : Nat → Prop) (v : Value) (ps : List (Nat × List Nat)) : Prop := ∃ cs, PC w S ps cs ∧ Row w S 116 2 v ps.length cs
theorem Packs.chg {w w' : World} {S T : Nat → Prop} {v : Value} {ps : List (Nat × List Nat)} (h : Packs w S v ps) (hc : Chg T w w') (hn : ∀ k, S k → k < w.heap.size → ¬ T k) : Packs w' S v ps := by
  obtain ⟨cs, h1, h2⟩ := h
  exact ⟨cs, h1.chg hc hn, h2.chg hc hn⟩
theorem Packs.mono {w : World} {S T : Nat → Prop} {v : Value} {ps : List (Nat × List Nat)} (h : Packs w S v ps) (hT : ∀ k, S k → T k) : Packs w T v ps := by
  obtain ⟨cs, h1, h2⟩ := h
  exact ⟨cs, h1.mono hT, h2.mono hT⟩
theorem Packs.tight {w : World} {S : Nat → Prop} {v : Value} {ps : List (Nat × List Nat)} (h : Packs w S v ps) : Packs w (fun k => S k ∧ k < w.heap.size) v ps := by
  obtain ⟨cs, h1, h2⟩ := h
  exact ⟨cs, h1.tight, h2.tight⟩

/-- Packs two by two: the first k pairs. -/
def pairsN (ps : List (Nat × List Nat)) : Nat → List (Nat × List Nat)
  | 0 => []
  | k + 1 => pairsN ps k ++ [((gP ps (2 * k)).1 + (gP ps (2 * k + 1)).1, (gP ps (2 * k)).2 ++ (gP ps (2 * k + 1)).2)]
theorem pairsN_length (ps : List (Nat × List Nat)) : ∀ k, (pairsN ps k).length = k
  | 0 => rfl
  | k + 1 => by simp [pairsN, pairsN_length ps k]
end Go.Proofs.YtakoidkeaccgeaaDoor

/- merge: pairs. -/
namespace Go.Proofs.YtakoidkeaccgeaaDoor
open Go.RowKit Go.Shelf Go.Sort

/-- While pairs are made. -/
def PairI (w W : World) (o : Value) (qs : List (Nat × List Nat)) : Prop :=
  ∃ cs, W.ownsRow w.heap.size 116 2 o qs.length cs ∧ PC W (fun k => w.heap.size ≤ k) qs cs ∧ Chg (fun _ => False) w W

set_option maxHeartbeats 6400000 in
set_option maxRecDepth 100000 in
theorem pairs_calls (S : Nat → Prop) (v : Value) (ps : List (Nat × List Nat)) (w : World) (hp : Packs w S v ps) (hlen : ps.length ≤ 1000) (hb : ∀ p ∈ ps, p.1 ≤ 1152921504606846976 ∧ p.2.length ≤ 100000) :
    Calls Tryd.prog 70 #[v] w fun e w' => ∃ v', e = .returned v' ∧ PairI w w' v' (pairsN ps (ps.length / 2)) := by
  obtain ⟨cs0, hpc, hr⟩ := hp
  obtain ⟨A, k0, rfl, hm, hA⟩ := hr.form
  obtain ⟨ie, hie, hi0, hi1, hi2⟩ := info_parts infoPack
  have HP := Lib.hid hpc
  have HR := Lib.hid hr
  have HB := Lib.hid hb
  clear hpc hr hb hA
  unfold maxLen at hm
  go_enter Tryd.func70, Tryd.ntmps70
  go_wp2
  go_loopw [3, 4] (fun o i W => ∃ k : Nat, k ≤ ps.length / 2 ∧ i = .int .i64 (2 * (k : Int)) ∧ Hid (PairI w W o (pairsN ps k))) (fun _ i _ => ps.length + 2 - (intOf i).toNat)
  case atStart => exact ⟨0, Nat.zero_le _, rfl, [], own_nil _ _ _ _, rfl, Chg.refl _ _⟩
  case round =>
    obtain ⟨k, hk, rfl, HI⟩ := hrel
    by_cases hlt : 2 * k + 1 < ps.length
    · obtain ⟨ds, ho, hpd, hch⟩ := HI.out
      have hP := HP.out.chg hch (fun _ _ _ h => h)
      have hR := HR.out.chg hch (fun _ _ _ h => h)
      obtain ⟨va, ha0, ha1, hra⟩ := hP.at_ (2 * k) (by omega)
      obtain ⟨vb, hb0, hb1, hrb⟩ := hP.at_ (2 * k + 1) hlt
      obtain ⟨g, off, rfl, _, hg0, c0⟩ := HR.out.at_ A k0 rfl (2 * k * 2) (by omega)
      have hg : g < wr.heap.size := Nat.lt_of_lt_of_le hg0 hch.size
      replace c0 := (hch.cell_eq ⟨g, off + 2 * k * 2, none⟩ hg0 (fun h => h)).trans c0
      have c1 := hR.cell (2 * k * 2 + 1) (by omega)
      have c2 := hR.cell ((2 * k + 1) * 2) (by omega)
      have c3 := hR.cell ((2 * k + 1) * 2 + 1) (by omega)
      rw [ha0] at c0
      rw [ha1, ← Nat.add_assoc] at c1
      rw [hb0] at c2
      rw [hb1, ← Nat.add_assoc] at c3
      have ba := HB.out _ (gP_mem ps (2 * k) (by omega))
      have bb := HB.out _ (gP_mem ps (2 * k + 1) hlt)
      have hst : pairsN ps (k + 1) = pairsN ps k ++ [((gP ps (2 * k)).1 + (gP ps (2 * k + 1)).1, (gP ps (2 * k)).2 ++ (gP ps (2 * k + 1)).2)] := rfl
      have HST := Lib.hid hst
      have hpl := pairsN_length ps k
      have HPL := Lib.hid hpl
      generalize gP ps (2 * k) = pa at *
      generalize gP ps (2 * k + 1) = pb at *
      obtain ⟨xa, la⟩ := pa
      obtain ⟨xb, lb⟩ := pb
      dsimp only at *
      have HRA := Lib.hid hra
      have HRB := Lib.hid hrb
      have HO := Lib.hid ho
      have HPD := Lib.hid hpd
      have HCH := Lib.hid hch
      have hsz := hch.size
      have hlt2 : 2 * (k : Int) + 1 < (ps.length : Int) := by omega
      have e1 : (2 * (k : Int)).toNat = 2 * k := by omega
      have e2 : (2 * (k : Int) + 1).toNat = 2 * k + 1 := by omega
      obtain ⟨Aa, ka, rfl, _, _⟩ := hra.form
      obtain ⟨Ab, kb, rfl, _, _⟩ := hrb.form
      clear ho hpd hch hst hra hrb ha0 ha1 hb0 hb1 hP hR
      have hsa : ∀ W', Chg (fun _ => False) wr W' → Row W' _ 3 1 (.slice Aa la.length ka) la.length (nis la) := fun W' h => HRA.out.chg h (fun _ _ _ h => h)
      have hsb : ∀ W', Chg (fun _ => False) wr W' → Row W' _ 3 1 (.slice Ab lb.length kb) lb.length (nis lb) := fun W' h => HRB.out.chg h (fun _ _ _ h => h)
      have HSA := Lib.hid hsa
      have HSB := Lib.hid hsb
      have how := fun W' (h : Chg (fun _ => False) wr W') => h.own HO.out (fun _ _ h => h)
      have HOW := Lib.hid how
      have hgne := own_ne HO.out hg0
      have HGN := Lib.hid hgne
      have hn1 : (pairsN ps k).length + 1 ≤ maxLen := by rw [hpl]; unfold maxLen; omega
      have hn2 : ((pairsN ps k).length + 1) * 32 ≤ 140737488355328 := by rw [hpl]; omega
      have hbs : ∀ W', Chg (fun _ => False) wr W' → w.heap.size ≤ W'.heap.size := fun W' h => Nat.le_trans hsz h.size
      have HN1 := Lib.hid hn1
      have HN2 := Lib.hid hn2
      have HBS := Lib.hid hbs
      clear hsa hsb how hgne hn1 hn2 hbs hpl
      have q0 : (0 : Int) ≤ 2 * (k : Int) := by omega
      have q1 : 2 * (k : Int) < (ps.length : Int) := by omega
      have q2 : (0 : Int) ≤ 2 * (k : Int) + 1 := by omega
      have xab : (xa : Int) + (xb : Int) ≤ 2305843009213693952 := by omega
      have n0 := World.new_ne wr _ c0
      have n1 := World.new_ne wr _ c1
      have n2 := World.new_ne wr _ c2
      have n3 := World.new_ne wr _ c3
      go_wp2_with fail
      have w1 : IntKind.i64.wrap (2 * (k : Int) + 1) = 2 * (k : Int) + 1 := IntWalk.i64_in _ (by omega)
      have w2 : IntKind.i64.wrap ((xa : Int) + (xb : Int)) = (xa : Int) + (xb : Int) := IntWalk.i64_in _ (by omega)
      go_region_held3 (fun w' => w'.cell? ⟨g, off + 2 * k * 2, none⟩ = some (.int .i64 (xa : Int)) ∧ w'.cell? ⟨g, off + 2 * k * 2 + 1, none⟩ = some (.slice Aa la.length ka) ∧ w'.cell? ⟨g, off + (2 * k + 1) * 2, none⟩ = some (.int .i64 (xb : Int)) ∧ w'.cell? ⟨g, off + (2 * k + 1) * 2 + 1, none⟩ = some (.slice Ab lb.length kb))
        (first | go_keep | (go_split_ands; refine ⟨?_, ?_, ?_, ?_⟩ <;> first | (rw [hc5.cell_eq _ (Nat.lt_of_lt_of_le hg ((Chg.refl (fun _ => False) wr).alloc _).drew.size) (fun h => h)]; assumption) | (rw [hgrow.cell_far _ (Nat.lt_of_lt_of_le hg (Nat.le_trans (((Chg.refl (fun _ => False) wr).alloc _).drew.trans hc5 (fun _ h => h.elim)).size ((Chg.refl (fun _ => False) w5).alloc _).size)) (Ne.symm HGN.out)]; assumption)))
        (first | (go_at_call 48; refine (concat2_calls S _ (.slice Aa la.length ka) (.slice Ab lb.length kb) la lb _ (by exact Row.lit wr #[.slice Aa la.length ka, .slice Ab lb.length kb] 22 2 (by decide) rfl) (HSA.out _ ((Chg.refl _ _).alloc _).drew) (HSB.out _ ((Chg.refl _ _).alloc _).drew) ba.2 bb.2).mono ?_; rintro e w5 ⟨v5, rfl, ho5, hc5⟩; obtain ⟨A5, k5, rfl⟩ := own_slice ho5)
               | (refine step_append_lies _ (by rfl) _ _ 114 (by rfl) w.heap.size 116 ie _ 2 32 Tryd.underlying114 hie hi0 hi1 hi2 rfl (by omega) _ (pairsN ps k).length ds (by rfl) ((HOW.out w5 (((Chg.refl _ _).alloc _).drew.trans hc5 (fun _ h => h.elim))).alloc _) ⟨w5.heap.size, 0, none⟩ 1 1 [.int .i64 ((xa : Int) + (xb : Int)), .slice A5 (la.length + lb.length) k5] (by rfl) (by rfl) (World.news_of_block (cs := #[.int .i64 ((xa : Int) + (xb : Int)), .slice A5 (la.length + lb.length) k5]) (t := 116) (fr := (0, 0)) (heap_alloc_new w5 _)) (by simp [Value.oneCell']) (by omega) HN1.out HN2.out (Nat.le_trans (HBS.out w5 (((Chg.refl _ _).alloc _).drew.trans hc5 (fun _ h => h.elim))) ((Chg.refl (fun _ => False) w5).alloc _).size) _ (by rfl) ?_; intro gg cap w6 hown6 hgrow hat hlt6))
      go_wp2
      go_roundw
      case rel =>
        refine ⟨k + 1, by omega, by (congr 1) <;> omega, ?_⟩
        have hc0 : Chg (fun _ => False) wr w5 := ((Chg.refl _ _).alloc _).drew.trans hc5 (fun _ h => h.elim)
        have hcw : Chg (fun _ => False) w w5 := HCH.out.trans hc0 (fun _ h => h.elim)
        refine ⟨ds ++ [.int .i64 ((xa : Int) + (xb : Int)), .slice A5 (la.length + lb.length) k5], ?_, ?_, (hcw.alloc _).grown hgrow (fun i hi => Or.inr (own_base HO.out i hi))⟩
        · rw [HST.out, List.length_append]
          exact hown6
        · rw [HST.out]
          have hw5 := HPD.out.chg hc0 (fun _ _ _ h => h)
          have hro : Row w5 (fun i => w.heap.size ≤ i) 3 1 (.slice A5 (la.length + lb.length) k5) (la ++ lb).length (nis (la ++ lb)) := by
            have := Row.of_own (S := fun i => w.heap.size ≤ i) ho5 (fun i hi => Nat.le_trans (HBS.out _ (((Chg.refl _ _).alloc _).drew)) (own_base ho5 i hi))
            rw [List.length_append]
            exact this
          have hall := hw5.append (PC.one (c := xa + xb) hro)
          have ho' := (HOW.out w5 hc0)
          have hal : Chg (fun _ => False) w5 (w5.alloc (.cells #[.int .i64 ((xa : Int) + (xb : Int)), .slice A5 (la.length + lb.length) k5] 116)) := (Chg.refl _ _).alloc _
          have hall2 := (hall.chg hal (fun _ _ _ h => h)).imp (T := fun i => w.heap.size ≤ i) (fun v n xs hr => Row.grown_type hr (hal.own ho' (fun _ _ h => h)) hgrow (by decide))
          rw [Int.natCast_add] at hall2
          exact hall2
      case measure => simp [intOf]; omega
    · have hlt2 : ¬ 2 * (k : Int) + 1 < (ps.length : Int) := by omega
      obtain rfl : k = ps.length / 2 := by omega
      go_wp2
      go_returns
      exact ⟨_, rfl, HI.out⟩
end Go.Proofs.YtakoidkeaccgeaaDoor
