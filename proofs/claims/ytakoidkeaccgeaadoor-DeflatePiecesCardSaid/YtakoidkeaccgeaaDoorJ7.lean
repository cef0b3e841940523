/- merge: joined. -/
import Derived.Test.YtakoidkeaccgeaaDoorJ6
import Derived.Test.YtakoidkeaccgeaaDoorJ1
namespace Go.Proofs.YtakoidkeaccgeaaDoor
open Go.RowKit Go.Shelf Go.Sort

def joinF : Nat → List (Nat × List Nat) → List (Nat × List Nat) → List (Nat × List Nat)
  | 0, a, b => a ++ b
  | _ + 1, [], b => b
  | _ + 1, a, [] => a
  | f + 1, p :: a, q :: b => if p.1 ≤ q.1 then p :: joinF f a (q :: b) else q :: joinF f (p :: a) b
theorem joinF_nil_left : ∀ f b, joinF f [] b = b
  | 0, b => rfl
  | f + 1, b => by cases b <;> rfl
theorem joinF_nil_right : ∀ f a, joinF f a [] = a
  | 0, a => by simp [joinF]
  | f + 1, a => by cases a <;> rfl
/-- Two lists by rising costs, the first one's first. -/
def joinN (a b : List (Nat × List Nat)) : List (Nat × List Nat) := joinF (a.length + b.length) a b
theorem joinF_length : ∀ f a b, (joinF f a b).length = a.length + b.length
  | 0, a, b => by simp [joinF]
  | f + 1, [], b => by simp [joinF]
  | f + 1, p :: a, [] => by simp [joinF]
  | f + 1, p :: a, q :: b => by
    unfold joinF
    split
    · rw [List.length_cons, joinF_length f a (q :: b)]; simp; omega
    · rw [List.length_cons, joinF_length f (p :: a) b]; simp; omega
theorem joinN_cons (p q : Nat × List Nat) (a b : List (Nat × List Nat)) : joinN (p :: a) (q :: b) = if p.1 ≤ q.1 then p :: joinN a (q :: b) else q :: joinN (p :: a) b := by
  unfold joinN
  rw [show (p :: a).length + (q :: b).length = (a.length + (q :: b).length) + 1 by simp; omega, joinF]
  congr 1
  rw [show a.length + (q :: b).length = (p :: a).length + b.length by simp; omega]

theorem Packs.cons_form {w : World} {S : Nat → Prop} {v : Value} {p : Nat × List Nat} {ps : List (Nat × List Nat)} (h : Packs w S v (p :: ps)) :
    ∃ g off c u, v = .slice (some ⟨g, off, none⟩) (ps.length + 1) c ∧ ps.length + 1 ≤ c ∧ c ≤ maxLen ∧ S g ∧ g < w.heap.size ∧ w.cell? ⟨g, off, none⟩ = some (.int .i64 (p.1 : Int)) ∧ w.cell? ⟨g, off + 1, none⟩ = some u ∧ Row w S 3 1 u p.2.length (nis p.2) ∧
      Packs w S (.slice (some ⟨g, off + 2, none⟩) ps.length (c - 1)) ps ∧ (c = 1 → Packs w S (.slice (some ⟨g, off, none⟩) 0 0) ps) := by
  obtain ⟨cs, hpc, hr⟩ := h
  obtain ⟨u, h0, h1, hru⟩ := hpc.at_ 0 (by simp)
  have hd := hpc.drop 1
  rcases hr.2 with ⟨_, hz⟩ | ⟨g, off, c, cur, rfl, hS, hg, hn, hc, hs, ht⟩
  · simp at hz
  · rw [List.length_cons] at *
    have c0 := hr.cell 0 (by omega)
    have c1 := hr.cell 1 (by omega)
    refine ⟨g, off, c, u, rfl, hn, hc, hS, (Array.getElem?_eq_some_iff.1 hg).1, c0.trans h0, c1.trans h1, hru, ⟨cs.drop 2, hd, ?_⟩, fun hc1 => ?_⟩
    · have hcut := hr.cut 1 (ps.length + 1) (c - 1) (by omega) (Nat.le_refl _) (by omega) (by omega)
      rw [show ps.length + 1 - 1 = ps.length by omega] at hcut
      have hl := hpc.length
      rw [List.length_cons] at hl
      rw [List.take_of_length_le (by rw [List.length_drop]; omega)] at hcut
      exact hcut
    · have hp0 : ps = [] := List.eq_nil_of_length_eq_zero (by omega)
      subst hp0
      exact ⟨[], rfl, by simp, .inr ⟨g, off, 0, cur, rfl, hS, hg, Nat.zero_le _, Nat.zero_le _, by omega, by simp⟩⟩
/-- While lists are joined. -/
def JoinI (w W : World) (S : Nat → Prop) (o va vb : Value) (done a b : List (Nat × List Nat)) : Prop :=
  ∃ ds, W.ownsRow w.heap.size 116 2 o done.length ds ∧ PC W (fun k => S k ∧ k < w.heap.size) done ds ∧ Packs W (fun k => S k ∧ k < w.heap.size) va a ∧ Packs W (fun k => S k ∧ k < w.heap.size) vb b ∧ Chg (fun _ => False) w W

theorem concat3_calls (S : Nat → Prop) (v va vb vc : Value) (na nb nc : Nat) (ca cb cc : List Value) (w : World) (hr : Row w (fun _ => True) 114 1 v 3 [va, vb, vc]) (ha : Row w S 116 2 va na ca) (hb : Row w S 116 2 vb nb cb) (hc : Row w S 116 2 vc nc cc)
    (oa : OneC ca) (ob : OneC cb) (oc : OneC cc) (hs : na + nb + nc ≤ 1000000) :
    Calls Tryd.prog 88 #[v] w fun e w' => ∃ v', e = .returned v' ∧ w'.ownsRow w.heap.size 116 2 v' (na + nb + nc) (ca ++ cb ++ cc) ∧ Chg (fun _ => False) w w' := by
  have hsm : sumL [(va, na, ca), (vb, nb, cb), (vc, nc, cc)] 3 = na + nb + nc := by simp [sumL]
  have hct : catL [(va, na, ca), (vb, nb, cb), (vc, nc, cc)] 3 = ca ++ cb ++ cc := by simp [catL]
  refine (concatP_calls (fun _ => True) v [(va, na, ca), (vb, nb, cb), (vc, nc, cc)] w hr ?_ ?_ (by simp)).mono ?_
  · intro r hr
    rcases List.mem_cons.1 hr with rfl | hr
    · exact ⟨ha.mono (fun _ _ => trivial), oa⟩
    · rcases List.mem_cons.1 hr with rfl | hr
      · exact ⟨hb.mono (fun _ _ => trivial), ob⟩
      · rcases List.mem_cons.1 hr with rfl | hr
        · exact ⟨hc.mono (fun _ _ => trivial), oc⟩
        · cases hr
  · show sumL _ 3 ≤ _
    rw [hsm]; exact hs
  · rintro e w5 ⟨v5, rfl, ho5, hc5⟩
    refine ⟨v5, rfl, ?_, hc5⟩
    rw [← hsm, ← hct]
    exact ho5
set_option maxHeartbeats 6400000 in
set_option maxRecDepth 100000 in
theorem joined_calls (S : Nat → Prop) (va vb : Value) (a b : List (Nat × List Nat)) (w : World) (ha : Packs w S va a) (hb : Packs w S vb b) (hlen : a.length + b.length ≤ 100000) :
    Calls Tryd.prog 69 #[va, vb] w fun e w' => ∃ v' ds, e = .returned v' ∧ w'.ownsRow w.heap.size 116 2 v' (a.length + b.length) ds ∧ PC w' S (joinN a b) ds ∧ Chg (fun _ => False) w w' := by
  obtain ⟨ie, hie, hi0, hi1, hi2⟩ := info_parts infoPack
  have HI : Hid (JoinI w w S (.slice none 0 0) va vb [] a b) := ⟨[], own_nil _ _ _ _, rfl, ha.tight, hb.tight, Chg.refl _ _⟩
  clear ha hb
  go_enter Tryd.func69, Tryd.ntmps69
  go_wp2
  go_loopw [0, 1, 5] (fun x y o W => ∃ (done a' b' : List (Nat × List Nat)), Hid (done.length + a'.length + b'.length = a.length + b.length) ∧ Hid (joinN a b = done ++ joinN a' b') ∧ Hid (JoinI w W S o x y done a' b')) (fun x y _ _ => sliceLen x + sliceLen y)
  case atStart => exact ⟨[], a, b, by show 0 + a.length + b.length = _; omega, rfl, HI.out⟩
  case round =>
    clear HI
    obtain ⟨done, a', b', HL, HJ, HI⟩ := hrel
    have hdl := HL.out
    cases a' with
    | nil =>
      obtain ⟨ds, ho, hpd, hpa, hpb, hch⟩ := HI.out
      obtain ⟨csb, hpcb, hrb⟩ := hpb
      obtain ⟨csa, hpca, hra⟩ := hpa
      obtain ⟨Aa, ca, rfl, _, _⟩ := hra.form
      obtain ⟨Ab, cb, rfl, _, _⟩ := hrb.form
      obtain ⟨Ao, co, rfl⟩ := own_slice ho
      go_wp2_with fail
      have hal : Chg (fun _ => False) wr (wr.alloc (.cells #[.slice Ao done.length co, .slice Aa 0 ca, .slice Ab b'.length cb] 114)) := (Chg.refl _ _).alloc _
      refine (concat3_calls (fun _ => True) _ (.slice Ao done.length co) (.slice Aa 0 ca) (.slice Ab b'.length cb) done.length 0 b'.length ds csa csb _ (by exact Row.lit wr #[.slice Ao done.length co, .slice Aa 0 ca, .slice Ab b'.length cb] 114 3 (by decide) rfl) ((Row.of_own (S := fun _ => True) ho (fun _ _ => trivial)).chg hal (fun _ _ _ h => h)) ((hra.chg hal (fun _ _ _ h => h)).mono (fun _ _ => trivial)) ((hrb.chg hal (fun _ _ _ h => h)).mono (fun _ _ => trivial)) hpd.oneC hpca.oneC hpcb.oneC (by simp at hdl ⊢; omega)).mono ?_
      rintro e w5 ⟨v5, rfl, ho5, hc5⟩
      have hc0 : Chg (fun _ => False) wr w5 := hal.trans hc5 (fun _ h => h.elim)
      have hpcs := (((hpd.append hpca).append hpcb).chg hc0 (fun _ _ _ h => h)).mono (T := S) (fun _ h => h.1)
      have HPCS := Lib.hid hpcs
      have HO5 := Lib.hid ho5
      have HC5 := Lib.hid (hch.trans hc0 (fun _ h => h.elim))
      have hs8 := hal.size
      have hs9 := hch.size
      clear hpcs ho5 hpd hpca hpcb hra hrb ho
      go_wp2
      go_returns
      refine ⟨_, ds ++ csa ++ csb, rfl, ?_, ?_, HC5.out⟩
      · rw [← HL.out]
        exact own_lower HO5.out (Nat.le_trans hs9 hs8)
      · rw [HJ.out]
        rw [show joinN [] b' = b' from joinF_nil_left _ _]
        have := HPCS.out
        rw [List.append_nil] at this
        exact this
    | cons p a' =>
      cases b' with
      | nil =>
        obtain ⟨ds, ho, hpd, hpa, hpb, hch⟩ := HI.out
        obtain ⟨csb, hpcb, hrb⟩ := hpb
        obtain ⟨csa, hpca, hra⟩ := hpa
        obtain ⟨Aa, ca, rfl, _, _⟩ := hra.form
        obtain ⟨Ab, cb, rfl, _, _⟩ := hrb.form
        obtain ⟨Ao, co, rfl⟩ := own_slice ho
        go_wp2_with fail
        have hal : Chg (fun _ => False) wr (wr.alloc (.cells #[.slice Ao done.length co, .slice Aa (a'.length + 1) ca, .slice Ab 0 cb] 114)) := (Chg.refl _ _).alloc _
        refine (concat3_calls (fun _ => True) _ (.slice Ao done.length co) (.slice Aa (a'.length + 1) ca) (.slice Ab 0 cb) done.length (a'.length + 1) 0 ds csa csb _ (by exact Row.lit wr #[.slice Ao done.length co, .slice Aa (a'.length + 1) ca, .slice Ab 0 cb] 114 3 (by decide) rfl) ((Row.of_own (S := fun _ => True) ho (fun _ _ => trivial)).chg hal (fun _ _ _ h => h)) ((hra.chg hal (fun _ _ _ h => h)).mono (fun _ _ => trivial)) ((hrb.chg hal (fun _ _ _ h => h)).mono (fun _ _ => trivial)) hpd.oneC hpca.oneC hpcb.oneC (by simp at hdl ⊢; omega)).mono ?_
        rintro e w5 ⟨v5, rfl, ho5, hc5⟩
        have hc0 : Chg (fun _ => False) wr w5 := hal.trans hc5 (fun _ h => h.elim)
        have hpcs := (((hpd.append hpca).append hpcb).chg hc0 (fun _ _ _ h => h)).mono (T := S) (fun _ h => h.1)
        have HPCS := Lib.hid hpcs
        have HO5 := Lib.hid ho5
        have HC5 := Lib.hid (hch.trans hc0 (fun _ h => h.elim))
        have hs8 := hal.size
        have hs9 := hch.size
        clear hpcs ho5 hpd hpca hpcb hra hrb ho
        go_wp2
        go_returns
        refine ⟨_, ds ++ csa ++ csb, rfl, ?_, ?_, HC5.out⟩
        · rw [← HL.out]
          exact own_lower HO5.out (Nat.le_trans hs9 hs8)
        · rw [HJ.out]
          rw [show joinN (p :: a') [] = p :: a' from joinF_nil_right _ _]
          have := HPCS.out
          rw [List.append_nil] at this
          exact this
      | cons q b' =>
        obtain ⟨ds, ho, hpd, hpa, hpb, hch⟩ := HI.out
        have HPA := Lib.hid hpa
        have HPB := Lib.hid hpb
        obtain ⟨ga, oa, ca, ua, rfl, hca1, hcam, ⟨_, hgaw⟩, hga, a0, a1, hrua, hta, hta1⟩ := hpa.cons_form
        obtain ⟨gb, ob, cb, ub, rfl, hcb1, hcbm, ⟨_, hgbw⟩, hgb, b0, b1, hrub, htb, htb1⟩ := hpb.cons_form
        unfold maxLen at hcam hcbm
        have HTA := Lib.hid hta
        have HTA1 := Lib.hid hta1
        have HTB := Lib.hid htb
        have HTB1 := Lib.hid htb1
        have HRUA := Lib.hid hrua
        have HRUB := Lib.hid hrub
        have HO := Lib.hid ho
        have HPD := Lib.hid hpd
        have HCH := Lib.hid hch
        have hna := own_ne ho hgaw
        have hnb := own_ne ho hgbw
        have HNA := Lib.hid hna
        have HNB := Lib.hid hnb
        have how := fun W' (h : Chg (fun _ => False) wr W') => h.own ho (fun _ _ h => h)
        have HOW := Lib.hid how
        have hstep := joinN_cons p q a' b'
        have HST := Lib.hid hstep
        have hsz := hch.size
        have m0 := World.new_ne wr _ a0
        have m1 := World.new_ne wr _ a1
        have m2 := World.new_ne wr _ b0
        have m3 := World.new_ne wr _ b1
        obtain ⟨Aua, kua, rfl, _, _⟩ := hrua.form
        obtain ⟨Aub, kub, rfl, _, _⟩ := hrub.form
        obtain ⟨xp, lp⟩ := p
        obtain ⟨xq, lq⟩ := q
        dsimp only at *
        have hn1 : done.length + 1 ≤ maxLen := by unfold maxLen; simp only [List.length_cons] at hdl; omega
        have hn2 : (done.length + 1) * 32 ≤ 140737488355328 := by simp only [List.length_cons] at hdl; omega
        clear hpa hpb hta hta1 htb htb1 ho hpd hch hna hnb how hstep hrua hrub HI
        by_cases hle : xp ≤ xq
        · have hle' : (xp : Int) ≤ (xq : Int) := by omega
          by_cases hc1 : ca = 1
          · have HC1 := Lib.hid hc1
            have hz : a'.length = 0 := by omega
            subst hc1

            go_wp2
            go_quiet (fail)
            go_wp2_with fail
            go_region_held3 (fun w' => w'.cell? ⟨ga, oa, none⟩ = some (.int .i64 (xp : Int)) ∧ w'.cell? ⟨ga, oa + 1, none⟩ = some (.slice Aua lp.length kua))
              (first | go_keep | (go_split_ands; refine ⟨?_, ?_⟩ <;> (rw [hgrow.cell_far _ (Nat.lt_of_lt_of_le hga ((Chg.refl (fun _ => False) wr).alloc _).drew.size) (Ne.symm HNA.out)]; assumption)))
              ((refine step_append_lies _ (by rfl) (.tmp 23) (.tmp 27) 114 (by rfl) w.heap.size 116 ie _ 2 32 Tryd.underlying114 hie hi0 hi1 hi2 rfl (by omega) _ done.length ds (by rfl) ((HOW.out _ ((Chg.refl _ _).alloc _)).drew) ⟨wr.heap.size, 0, none⟩ 1 1 [.int .i64 (xp : Int), .slice Aua lp.length kua] (by rfl) (by rfl) (World.news_of_block (cs := #[.int .i64 (xp : Int), .slice Aua lp.length kua]) (t := 116) (fr := (0, 0)) (heap_alloc_new wr _)) (by simp [Value.oneCell']) (by omega) hn1 hn2 (Nat.le_trans hsz ((Chg.refl (fun _ => False) wr).alloc _).size) _ (by rfl) ?_; intro gg cap w6 hown6 hgrow hat hlt6))
            go_wp2
            go_roundw
            case rel =>
              have hcg : Chg (fun i => w.heap.size ≤ i) wr w6 := (((Chg.refl _ wr).drewN _).alloc _).grown hgrow (fun i hi => Or.inl (own_base HO.out i hi))
              refine ⟨done ++ [(xp, lp)], a', ((xq, lq) :: b'), ?_, ?_, ds ++ [.int .i64 (xp : Int), .slice Aua lp.length kua], ?_, ?_, ?_, ?_, ?_⟩
              · show (done ++ [(xp, lp)]).length + _ + _ = _
                simp at hdl ⊢; omega
              · show joinN a b = _
                rw [HJ.out, HST.out, if_pos hle]; simp
              · rw [List.length_append]; exact hown6
              · exact (HPD.out.chg hcg (fun i hi _ h => by omega)).append (PC.one (HRUA.out.chg hcg (fun i hi _ h => by omega)))
              · exact (HTA1.out (by first | trivial | rfl)).chg hcg (fun i hi _ h => by omega)
              · exact HPB.out.chg hcg (fun i hi _ h => by omega)
              · exact HCH.out.trans hcg (fun i hi => Or.inr hi)
            case measure => simp [sliceLen] <;> omega
          · have hcap : 1 < ca := by omega
            have hcapI : (1 : Int) < (ca : Int) := by omega
            have hs1 : (1 : Int) ≤ (a'.length : Int) + 1 := by omega
            have hs2 : (a'.length : Int) + 1 ≤ (ca : Int) := by omega
            have hs3 : ¬ 1 = ca := by omega

            go_wp2
            go_quiet (fail)
            go_wp2_with fail
            go_region_held3 (fun w' => w'.cell? ⟨ga, oa, none⟩ = some (.int .i64 (xp : Int)) ∧ w'.cell? ⟨ga, oa + 1, none⟩ = some (.slice Aua lp.length kua))
              (first | go_keep | (go_split_ands; refine ⟨?_, ?_⟩ <;> (rw [hgrow.cell_far _ (Nat.lt_of_lt_of_le hga ((Chg.refl (fun _ => False) wr).alloc _).drew.size) (Ne.symm HNA.out)]; assumption)))
              ((refine step_append_lies _ (by rfl) (.tmp 23) (.tmp 27) 114 (by rfl) w.heap.size 116 ie _ 2 32 Tryd.underlying114 hie hi0 hi1 hi2 rfl (by omega) _ done.length ds (by rfl) ((HOW.out _ ((Chg.refl _ _).alloc _)).drew) ⟨wr.heap.size, 0, none⟩ 1 1 [.int .i64 (xp : Int), .slice Aua lp.length kua] (by rfl) (by rfl) (World.news_of_block (cs := #[.int .i64 (xp : Int), .slice Aua lp.length kua]) (t := 116) (fr := (0, 0)) (heap_alloc_new wr _)) (by simp [Value.oneCell']) (by omega) hn1 hn2 (Nat.le_trans hsz ((Chg.refl (fun _ => False) wr).alloc _).size) _ (by rfl) ?_; intro gg cap w6 hown6 hgrow hat hlt6))
            go_wp2
            go_roundw
            case rel =>
              have hcg : Chg (fun i => w.heap.size ≤ i) wr w6 := (((Chg.refl _ wr).drewN _).alloc _).grown hgrow (fun i hi => Or.inl (own_base HO.out i hi))
              refine ⟨done ++ [(xp, lp)], a', ((xq, lq) :: b'), ?_, ?_, ds ++ [.int .i64 (xp : Int), .slice Aua lp.length kua], ?_, ?_, ?_, ?_, ?_⟩
              · show (done ++ [(xp, lp)]).length + _ + _ = _
                simp at hdl ⊢; omega
              · show joinN a b = _
                rw [HJ.out, HST.out, if_pos hle]; simp
              · rw [List.length_append]; exact hown6
              · exact (HPD.out.chg hcg (fun i hi _ h => by omega)).append (PC.one (HRUA.out.chg hcg (fun i hi _ h => by omega)))
              · exact HTA.out.chg hcg (fun i hi _ h => by omega)
              · exact HPB.out.chg hcg (fun i hi _ h => by omega)
              · exact HCH.out.trans hcg (fun i hi => Or.inr hi)
            case measure => simp [sliceLen] <;> omega
        · have hle' : ¬ (xp : Int) ≤ (xq : Int) := by omega
          by_cases hc1 : cb = 1
          · have HC1 := Lib.hid hc1
            have hz : b'.length = 0 := by omega
            subst hc1

            go_wp2
            go_quiet (fail)
            go_wp2_with fail
            go_region_held3 (fun w' => w'.cell? ⟨gb, ob, none⟩ = some (.int .i64 (xq : Int)) ∧ w'.cell? ⟨gb, ob + 1, none⟩ = some (.slice Aub lq.length kub))
              (first | go_keep | (go_split_ands; refine ⟨?_, ?_⟩ <;> (rw [hgrow.cell_far _ (Nat.lt_of_lt_of_le hgb ((Chg.refl (fun _ => False) wr).alloc _).drew.size) (Ne.symm HNB.out)]; assumption)))
              ((refine step_append_lies _ (by rfl) (.tmp 31) (.tmp 35) 114 (by rfl) w.heap.size 116 ie _ 2 32 Tryd.underlying114 hie hi0 hi1 hi2 rfl (by omega) _ done.length ds (by rfl) ((HOW.out _ ((Chg.refl _ _).alloc _)).drew) ⟨wr.heap.size, 0, none⟩ 1 1 [.int .i64 (xq : Int), .slice Aub lq.length kub] (by rfl) (by rfl) (World.news_of_block (cs := #[.int .i64 (xq : Int), .slice Aub lq.length kub]) (t := 116) (fr := (0, 0)) (heap_alloc_new wr _)) (by simp [Value.oneCell']) (by omega) hn1 hn2 (Nat.le_trans hsz ((Chg.refl (fun _ => False) wr).alloc _).size) _ (by rfl) ?_; intro gg cap w6 hown6 hgrow hat hlt6))
            go_wp2
            go_roundw
            case rel =>
              have hcg : Chg (fun i => w.heap.size ≤ i) wr w6 := (((Chg.refl _ wr).drewN _).alloc _).grown hgrow (fun i hi => Or.inl (own_base HO.out i hi))
              refine ⟨done ++ [(xq, lq)], ((xp, lp) :: a'), b', ?_, ?_, ds ++ [.int .i64 (xq : Int), .slice Aub lq.length kub], ?_, ?_, ?_, ?_, ?_⟩
              · show (done ++ [(xq, lq)]).length + _ + _ = _
                simp at hdl ⊢; omega
              · show joinN a b = _
                rw [HJ.out, HST.out, if_neg hle]; simp
              · rw [List.length_append]; exact hown6
              · exact (HPD.out.chg hcg (fun i hi _ h => by omega)).append (PC.one (HRUB.out.chg hcg (fun i hi _ h => by omega)))
              · exact HPA.out.chg hcg (fun i hi _ h => by omega)
              · exact (HTB1.out (by first | trivial | rfl)).chg hcg (fun i hi _ h => by omega)
              · exact HCH.out.trans hcg (fun i hi => Or.inr hi)
            case measure => simp [sliceLen] <;> omega
          · have hcap : 1 < cb := by omega
            have hcapI : (1 : Int) < (cb : Int) := by omega
            have hs1 : (1 : Int) ≤ (b'.length : Int) + 1 := by omega
            have hs2 : (b'.length : Int) + 1 ≤ (cb : Int) := by omega
            have hs3 : ¬ 1 = cb := by omega

            go_wp2
            go_quiet (fail)
            go_wp2_with fail
            go_region_held3 (fun w' => w'.cell? ⟨gb, ob, none⟩ = some (.int .i64 (xq : Int)) ∧ w'.cell? ⟨gb, ob + 1, none⟩ = some (.slice Aub lq.length kub))
              (first | go_keep | (go_split_ands; refine ⟨?_, ?_⟩ <;> (rw [hgrow.cell_far _ (Nat.lt_of_lt_of_le hgb ((Chg.refl (fun _ => False) wr).alloc _).drew.size) (Ne.symm HNB.out)]; assumption)))
              ((refine step_append_lies _ (by rfl) (.tmp 31) (.tmp 35) 114 (by rfl) w.heap.size 116 ie _ 2 32 Tryd.underlying114 hie hi0 hi1 hi2 rfl (by omega) _ done.length ds (by rfl) ((HOW.out _ ((Chg.refl _ _).alloc _)).drew) ⟨wr.heap.size, 0, none⟩ 1 1 [.int .i64 (xq : Int), .slice Aub lq.length kub] (by rfl) (by rfl) (World.news_of_block (cs := #[.int .i64 (xq : Int), .slice Aub lq.length kub]) (t := 116) (fr := (0, 0)) (heap_alloc_new wr _)) (by simp [Value.oneCell']) (by omega) hn1 hn2 (Nat.le_trans hsz ((Chg.refl (fun _ => False) wr).alloc _).size) _ (by rfl) ?_; intro gg cap w6 hown6 hgrow hat hlt6))
            go_wp2
            go_roundw
            case rel =>
              have hcg : Chg (fun i => w.heap.size ≤ i) wr w6 := (((Chg.refl _ wr).drewN _).alloc _).grown hgrow (fun i hi => Or.inl (own_base HO.out i hi))
              refine ⟨done ++ [(xq, lq)], ((xp, lp) :: a'), b', ?_, ?_, ds ++ [.int .i64 (xq : Int), .slice Aub lq.length kub], ?_, ?_, ?_, ?_, ?_⟩
              · show (done ++ [(xq, lq)]).length + _ + _ = _
                simp at hdl ⊢; omega
              · show joinN a b = _
                rw [HJ.out, HST.out, if_neg hle]; simp
              · rw [List.length_append]; exact hown6
              · exact (HPD.out.chg hcg (fun i hi _ h => by omega)).append (PC.one (HRUB.out.chg hcg (fun i hi _ h => by omega)))
              · exact HPA.out.chg hcg (fun i hi _ h => by omega)
              · exact HTB.out.chg hcg (fun i hi _ h => by omega)
              · exact HCH.out.trans hcg (fun i hi => Or.inr hi)
            case measure => simp [sliceLen] <;> omega
end Go.Proofs.YtakoidkeaccgeaaDoor

/- Plain: the symbols of lengths and distances. -/
namespace Go.Proofs.YtakoidkeaccgeaaDoor

def stepsL : Nat → Nat → Nat → Nat → Nat → Nat × Nat
  | 0, k, _, a, e => (a + k * 2 ^ e, e)
  | f + 1, k, step, a, e => if step ≤ k then stepsL f (k - step) step (a + step * 2 ^ e) (e + 1) else (a + k * 2 ^ e, e)
def stepsN (k least free step : Nat) : Nat × Nat := if k < free then (least + k, 0) else stepsL k (k - free) step (least + free) 1
theorem stepsL_fuel : ∀ (f g k step a e : Nat), 1 ≤ step → k ≤ f → k ≤ g → stepsL f k step a e = stepsL g k step a e
  | 0, 0, _, _, _, _, _, _, _ => rfl
  | 0, g + 1, k, step, a, e, h1, h, _ => by
    obtain rfl : k = 0 := by omega
    rw [stepsL, stepsL, if_neg (by omega)]
  | f + 1, 0, k, step, a, e, h1, _, h => by
    obtain rfl : k = 0 := by omega
    rw [stepsL, stepsL, if_neg (by omega)]
  | f + 1, g + 1, k, step, a, e, h1, h, h' => by
    unfold stepsL
    split
    · exact stepsL_fuel f g _ _ _ _ h1 (by omega) (by omega)
    · rfl
/-- Of a length's symbol: the least one, how many extra bits. -/
def lenOf (s : Nat) : Nat × Nat := if s = 285 then (258, 0) else stepsN (s - 257) 3 8 4
def distOf (s : Nat) : Nat × Nat := stepsN s 1 4 2
/-- The symbol of a number: the symbol, its extra bits, their value; f symbols behind the first. -/
def findF (tab : Nat → Nat × Nat) (n first : Nat) : Nat → Nat × Nat × Nat
  | 0 => (first, (tab first).2, n - (tab first).1)
  | f + 1 => if (tab (first + f + 1)).1 ≤ n then (first + f + 1, (tab (first + f + 1)).2, n - (tab (first + f + 1)).1) else findF tab n first f
def lenSym (n : Nat) : Nat × Nat × Nat := findF lenOf n 257 28
def distSym (n : Nat) : Nat × Nat × Nat := findF distOf n 0 29
theorem lenOf_small : ∀ s, 257 ≤ s → s ≤ 285 → 3 ≤ (lenOf s).1 ∧ (lenOf s).1 ≤ 258 ∧ (lenOf s).2 ≤ 5 := by
  intro s h1 h2
  have : ∀ k < 29, 3 ≤ (lenOf (257 + k)).1 ∧ (lenOf (257 + k)).1 ≤ 258 ∧ (lenOf (257 + k)).2 ≤ 5 := by decide +kernel
  have := this (s - 257) (by omega)
  rwa [show 257 + (s - 257) = s by omega] at this
theorem distOf_small : ∀ s, s ≤ 29 → 1 ≤ (distOf s).1 ∧ (distOf s).1 ≤ 24577 ∧ (distOf s).2 ≤ 13 := by
  intro s h2
  have : ∀ k < 30, 1 ≤ (distOf k).1 ∧ (distOf k).1 ≤ 24577 ∧ (distOf k).2 ≤ 13 := by decide +kernel
  exact this s (by omega)
theorem findF_ok (tab : Nat → Nat × Nat) (n first : Nat) (h0 : (tab first).1 ≤ n) : ∀ f, first ≤ (findF tab n first f).1 ∧ (findF tab n first f).1 ≤ first + f ∧ (findF tab n first f).2.1 = (tab (findF tab n first f).1).2 ∧
    (tab (findF tab n first f).1).1 ≤ n ∧ (findF tab n first f).2.2 = n - (tab (findF tab n first f).1).1
  | 0 => by simp [findF, h0]
  | f + 1 => by
    have := findF_ok tab n first h0 f
    unfold findF
    split
    · rename_i h
      refine ⟨?_, ?_, rfl, h, rfl⟩ <;> dsimp only <;> omega
    · exact ⟨this.1, by omega, this.2.2⟩
theorem lenSym_ok (n : Nat) (h : 3 ≤ n) : 257 ≤ (lenSym n).1 ∧ (lenSym n).1 ≤ 285 ∧ (lenSym n).2.1 = (lenOf (lenSym n).1).2 ∧ (lenOf (lenSym n).1).1 ≤ n ∧ (lenSym n).2.2 = n - (lenOf (lenSym n).1).1 :=
  findF_ok lenOf n 257 (by rw [show (lenOf 257).1 = 3 from by decide +kernel]; exact h) 28
theorem distSym_ok (n : Nat) (h : 1 ≤ n) : (distSym n).1 ≤ 29 ∧ (distSym n).2.1 = (distOf (distSym n).1).2 ∧ (distOf (distSym n).1).1 ≤ n ∧ (distSym n).2.2 = n - (distOf (distSym n).1).1 := by
  have := findF_ok distOf n 0 (by rw [show (distOf 0).1 = 1 from by decide +kernel]; exact h) 29
  refine ⟨?_, this.2.2⟩
  have h2 := this.2.1
  rw [Nat.zero_add] at h2
  exact h2
end Go.Proofs.YtakoidkeaccgeaaDoor

/- Plain: lengths packed; counts of symbols. -/
namespace Go.Proofs.YtakoidkeaccgeaaDoor

/-- Up to where lengths are told. -/
def uptoN (l : List Nat) (least : Nat) : Nat → Nat
  | 0 => 0
  | n + 1 => if least < n + 1 ∧ gN l n = 0 then uptoN l least n else n + 1
/-- How many are alike, from i on, where n are known. -/
def runF (l : List Nat) (i : Nat) : Nat → Nat → Nat
  | 0, n => n
  | f + 1, n => if i + n < l.length ∧ gN l (i + n) = gN l i then runF l i f (n + 1) else n
def runN (l : List Nat) (i : Nat) : Nat := runF l i l.length 1
theorem runF_le (l : List Nat) (i : Nat) : ∀ f n, i + n ≤ l.length → n ≤ runF l i f n ∧ i + runF l i f n ≤ l.length
  | 0, n, h => ⟨Nat.le_refl _, h⟩
  | f + 1, n, h => by
    unfold runF
    split
    · rename_i hc
      have := runF_le l i f (n + 1) (by omega)
      omega
    · exact ⟨Nat.le_refl _, h⟩
theorem runF_fuel (l : List Nat) (i : Nat) : ∀ f g n, l.length ≤ i + n + f → l.length ≤ i + n + g → runF l i f n = runF l i g n
  | 0, 0, _, _, _ => rfl
  | 0, g + 1, n, h, _ => by rw [runF, runF, if_neg (by omega)]
  | f + 1, 0, n, _, h => by rw [runF, runF, if_neg (by omega)]
  | f + 1, g + 1, n, h, h' => by
    unfold runF
    split
    · exact runF_fuel l i f g _ (by omega) (by omega)
    · rfl
theorem runN_le (l : List Nat) (i : Nat) (h : i < l.length) : 1 ≤ runN l i ∧ i + runN l i ≤ l.length := runF_le l i _ 1 (by omega)
/-- What tells a run: the symbol, its extra bits, their value; how many; whether at all. -/
def againN (v n : Nat) : (Nat × Nat × Nat) × Nat × Bool :=
  if v = 0 ∧ 11 ≤ n then ((18, 7, min n 138 - 11), min n 138, true)
  else if v = 0 ∧ 3 ≤ n then ((17, 3, n - 3), n, true)
  else if v ≠ 0 ∧ 3 ≤ n then ((16, 2, min n 6 - 3), min n 6, true)
  else ((0, 0, 0), 0, false)
def packIn (v : Nat) : Nat → Nat → List (Nat × Nat × Nat)
  | 0, _ => []
  | f + 1, n => if 0 < n then (if (againN v n).2.2 = true then (againN v n).1 :: packIn v f (n - (againN v n).2.1) else (v, 0, 0) :: packIn v f (n - 1)) else []
theorem againN_le (v n : Nat) (h : (againN v n).2.2 = true) : 3 ≤ (againN v n).2.1 ∧ (againN v n).2.1 ≤ n := by
  unfold againN at *
  split
  · dsimp only; omega
  · rename_i h1
    rw [if_neg h1] at h
    split
    · dsimp only; omega
    · rename_i h2
      rw [if_neg h2] at h
      split
      · dsimp only; omega
      · rename_i h3
        rw [if_neg h3] at h
        simp at h
theorem packIn_fuel (v : Nat) : ∀ f g n, n ≤ f → n ≤ g → packIn v f n = packIn v g n
  | 0, 0, _, _, _ => rfl
  | 0, g + 1, n, h, _ => by
    obtain rfl : n = 0 := by omega
    rw [packIn, packIn, if_neg (by omega)]
  | f + 1, 0, n, _, h => by
    obtain rfl : n = 0 := by omega
    rw [packIn, packIn, if_neg (by omega)]
  | f + 1, g + 1, n, h, h' => by
    unfold packIn
    split
    · split
      · rename_i ha
        have := againN_le v n ha
        rw [packIn_fuel v f g _ (by omega) (by omega)]
      · rw [packIn_fuel v f g _ (by omega) (by omega)]
    · rfl
theorem packIn_length (v : Nat) : ∀ f n, (packIn v f n).length ≤ n
  | 0, _ => Nat.zero_le _
  | f + 1, n => by
    unfold packIn
    split
    · split
      · rename_i ha
        have := againN_le v n ha
        have := packIn_length v f (n - (againN v n).2.1)
        rw [List.length_cons]; omega
      · have := packIn_length v f (n - 1)
        rw [List.length_cons]; omega
    · simp
/-- What tells the run of n at a length v, the first one by itself. -/
def packRun (v n : Nat) : List (Nat × Nat × Nat) := if v ≠ 0 then (v, 0, 0) :: packIn v (n - 1) (n - 1) else packIn v n n
theorem packRun_length (v n : Nat) (h : 1 ≤ n) : (packRun v n).length ≤ n := by
  unfold packRun
  split
  · have := packIn_length v (n - 1) (n - 1)
    rw [List.length_cons]; omega
  · exact packIn_length v n n
def packOut (l : List Nat) : Nat → Nat → List (Nat × Nat × Nat)
  | 0, _ => []
  | f + 1, i => if i < l.length then packRun (gN l i) (runN l i) ++ packOut l f (i + runN l i) else []
def packN (l : List Nat) : List (Nat × Nat × Nat) := packOut l l.length 0
theorem packOut_fuel (l : List Nat) : ∀ f g i, l.length ≤ i + f → l.length ≤ i + g → packOut l f i = packOut l g i
  | 0, 0, _, _, _ => rfl
  | 0, g + 1, i, h, _ => by rw [packOut, packOut, if_neg (by omega)]
  | f + 1, 0, i, _, h => by rw [packOut, packOut, if_neg (by omega)]
  | f + 1, g + 1, i, h, h' => by
    unfold packOut
    split
    · rename_i hi
      have := runN_le l i hi
      rw [packOut_fuel l f g _ (by omega) (by omega)]
    · rfl
theorem packOut_length (l : List Nat) : ∀ f i, (packOut l f i).length + i ≤ max l.length i
  | 0, i => by simp [packOut]; omega
  | f + 1, i => by
    unfold packOut
    split
    · rename_i hi
      have h1 := runN_le l i hi
      have h2 := packRun_length (gN l i) (runN l i) h1.1
      have h3 := packOut_length l f (i + runN l i)
      rw [List.length_append]
      omega
    · simp; omega
/-- More of a number at a place. -/
def incr (l : List Nat) (i : Nat) : List Nat := l.set i (gN l i + 1)
theorem incr_length (l : List Nat) (i : Nat) : (incr l i).length = l.length := by simp [incr]
theorem gN_incr (l : List Nat) (i j : Nat) : gN (incr l i) j ≤ gN l j + 1 := by
  unfold incr
  rw [gN_set]
  split
  · rename_i h; rw [h.1]; exact Nat.le_refl _
  · omega
end Go.Proofs.YtakoidkeaccgeaaDoor

/- merge: wrong; what the lists of packs are. -/
namespace Go.Proofs.YtakoidkeaccgeaaDoor
open Go.RowKit Go.Shelf Go.Sort

def twoP40 : Nat := 1099511627776
set_option maxHeartbeats 1600000 in
set_option maxRecDepth 100000 in
theorem mergeBad_calls (n : Nat) (hn : n ≤ 1099511627776) (w : World) : Calls Tryd.prog 83 #[.int .i64 (n : Int)] w fun e w' => e = .returned (.bool false) ∧ w' = w := by
  have h1 : decide ((1099511627776 : Int) < (n : Int)) = false := by simp; omega
  go_enter Tryd.func83, Tryd.ntmps83
  go_wp2
  go_returns
  exact ⟨rfl, rfl⟩

set_option maxHeartbeats 3200000 in
set_option maxRecDepth 100000 in
theorem wrong_calls (S : Nat → Prop) (v : Value) (c : List Nat) (most : Nat) (w : World) (hr : Row w S 3 1 v c.length (nis c)) (hlen : c.length ≤ 288) (hc : ∀ n ∈ c, n ≤ 1099511627776) (hm1 : 1 ≤ most) (hm2 : most ≤ 15) (ho : (orderN c).length ≤ 2 ^ most) :
    Calls Tryd.prog 67 #[v, .int .i64 (most : Int)] w fun e w' => e = .returned (.int .i64 0) ∧ Chg (fun _ => False) w w' := by
  have hCF := containsFuncI_calls 83 S v c w hr (fun n hn W => mergeBad_calls n (hc n hn) W) (enters_of Tryd.func83 (by kernel_rfl) rfl)
  have hus := fun W (h : Chg (fun _ => False) w W) => used_calls S v c W (hr.chg h (fun _ _ _ h => h)) (by omega)
  obtain ⟨A, k0, rfl, hm, hA⟩ := hr.form
  have HCF := Lib.hid hCF
  have HUS := Lib.hid hus
  have hp : 2 ^ most ≤ 2 ^ 15 := Nat.pow_le_pow_right (by decide) hm2
  have hcst : (2 : Int) ^ most = ((2 ^ most : Nat) : Int) := by simp
  have g1 : (1 : Int) ≤ 2 ^ most ∧ (2 : Int) ^ most ≤ 32768 := by rw [hcst]; have := Nat.two_pow_pos most; omega
  have g2 : ((orderN c).length : Int) ≤ 2 ^ most := by rw [hcst]; omega
  have k1 : decide ((288 : Int) < (c.length : Int)) = false := by simp; omega
  have k2 : decide ((most : Int) < 1) = false := by simp; omega
  have k3 : decide ((15 : Int) < (most : Int)) = false := by simp; omega
  clear hCF hus hA hr hc hm hp hcst ho
  go_enter Tryd.func67, Tryd.ntmps67
  go_wp2_with fail
  refine HCF.out.mono ?_
  rintro e w' ⟨rfl, hw⟩
  obtain rfl : w = w' := hw.symm
  go_wp2
  have w1 : IntKind.i64.wrap (2 ^ most) = (2 : Int) ^ most := IntWalk.i64_in _ (by omega)
  go_region_held3 (fun (_ : World) => True)
    (first | trivial | go_keep)
    ((go_at_call 68; refine (HUS.out _ (Chg.refl _ w).drew).mono ?_; rintro e w5 ⟨v5, rfl, ho5, hc5⟩; obtain ⟨A5, k5, rfl⟩ := own_slice ho5))
  have HC := Lib.hid hc5
  clear w1 hc5 ho5
  go_wp2
  go_returns
  exact ⟨rfl, ((Chg.refl _ w).drew).trans HC.out (fun _ h => h.elim)⟩
end Go.Proofs.YtakoidkeaccgeaaDoor

/- merge: the lists of packs: what they hold. -/
namespace Go.Proofs.YtakoidkeaccgeaaDoor

/-- Packs of m places: costs at most M, at most L places each. -/
def PB (m M L : Nat) (ps : List (Nat × List Nat)) : Prop := ∀ p ∈ ps, p.1 ≤ M ∧ p.2.length ≤ L ∧ ∀ i ∈ p.2, i < m
theorem PB.mono {m M L M' L' : Nat} {ps : List (Nat × List Nat)} (h : PB m M L ps) (hM : M ≤ M') (hL : L ≤ L') : PB m M' L' ps := fun p hp => ⟨Nat.le_trans (h p hp).1 hM, Nat.le_trans (h p hp).2.1 hL, (h p hp).2.2⟩
theorem PB.pairs {m M L : Nat} {ps : List (Nat × List Nat)} (h : PB m M L ps) : ∀ k, 2 * k ≤ ps.length → PB m (2 * M) (2 * L) (pairsN ps k)
  | 0, _ => fun p hp => by simp [pairsN] at hp
  | k + 1, hk => by
    intro p hp
    rcases List.mem_append.1 hp with hp | hp
    · exact PB.pairs h k (by omega) p hp
    · simp at hp
      subst hp
      have ha := h _ (gP_mem ps (2 * k) (by omega))
      have hb := h _ (gP_mem ps (2 * k + 1) (by omega))
      refine ⟨by dsimp only; omega, by rw [List.length_append]; omega, ?_⟩
      intro i hi
      rcases List.mem_append.1 hi with hi | hi
      · exact ha.2.2 i hi
      · exact hb.2.2 i hi
theorem mem_joinF : ∀ (f : Nat) (a b : List (Nat × List Nat)) (p), p ∈ joinF f a b → p ∈ a ∨ p ∈ b
  | 0, a, b, p, h => List.mem_append.1 h
  | f + 1, [], b, p, h => by rw [joinF_nil_left] at h; exact Or.inr h
  | f + 1, x :: a, [], p, h => by rw [joinF_nil_right] at h; exact Or.inl h
  | f + 1, x :: a, y :: b, p, h => by
    unfold joinF at h
    split at h
    · rcases List.mem_cons.1 h with rfl | h
      · exact Or.inl (List.mem_cons_self ..)
      · rcases mem_joinF f a (y :: b) p h with h | h
        · exact Or.inl (List.mem_cons_of_mem _ h)
        · exact Or.inr h
    · rcases List.mem_cons.1 h with rfl | h
      · exact Or.inr (List.mem_cons_self ..)
      · rcases mem_joinF f (x :: a) b p h with h | h
        · exact Or.inl h
        · exact Or.inr (List.mem_cons_of_mem _ h)
theorem PB.join {m M L : Nat} {a b : List (Nat × List Nat)} (ha : PB m M L a) (hb : PB m M L b) : PB m M L (joinN a b) := fun p hp => (mem_joinF _ a b p hp).elim (ha p) (hb p)
theorem joinN_length (a b : List (Nat × List Nat)) : (joinN a b).length = a.length + b.length := joinF_length _ a b

/-- The leaves: the first k. -/
def leavesN (c o : List Nat) : Nat → List (Nat × List Nat)
  | 0 => []
  | k + 1 => leavesN c o k ++ [(gN c (gN o k), [k])]
theorem leavesN_length (c o : List Nat) : ∀ k, (leavesN c o k).length = k
  | 0 => rfl
  | k + 1 => by simp [leavesN, leavesN_length c o k]
theorem leavesN_PB (c o : List Nat) (M : Nat) (hc : ∀ i, gN c i ≤ M) (m : Nat) : ∀ k, k ≤ m → PB m M 1 (leavesN c o k)
  | 0, _ => fun p hp => by simp [leavesN] at hp
  | k + 1, hk => by
    intro p hp
    rcases List.mem_append.1 hp with hp | hp
    · exact leavesN_PB c o M hc m k (by omega) p hp
    · simp at hp
      subst hp
      exact ⟨hc _, by simp, fun i hi => by simp at hi; omega⟩
/-- The list of packs behind r rounds. -/
def listN (c o : List Nat) : Nat → List (Nat × List Nat)
  | 0 => leavesN c o o.length
  | r + 1 => joinN (leavesN c o o.length) (pairsN (listN c o r) ((listN c o r).length / 2))
theorem listN_length (c o : List Nat) : ∀ r, (listN c o (r + 1)).length = o.length + (listN c o r).length / 2 := fun r => by
  show (joinN _ _).length = _
  rw [joinN_length, leavesN_length, pairsN_length]
theorem listN_le (c o : List Nat) : ∀ r, (listN c o r).length ≤ 2 * o.length
  | 0 => by simp [listN, leavesN_length]; omega
  | r + 1 => by rw [listN_length]; have := listN_le c o r; omega
theorem listN_PB (c o : List Nat) (M : Nat) (hc : ∀ i, gN c i ≤ M) : ∀ r, PB o.length (M * 2 ^ r) (2 ^ r) (listN c o r)
  | 0 => by simpa [listN] using leavesN_PB c o M hc o.length o.length (Nat.le_refl _)
  | r + 1 => by
    have ih := listN_PB c o M hc r
    have h1 := ih.pairs ((listN c o r).length / 2) (by omega)
    have e : M * 2 ^ (r + 1) = 2 * (M * 2 ^ r) := by rw [Nat.pow_succ']; exact Nat.mul_left_comm ..
    have e2 : 2 ^ (r + 1) = 2 * 2 ^ r := Nat.pow_succ' ..
    have hp := Nat.two_pow_pos r
    have hM : M ≤ M * 2 ^ (r + 1) := Nat.le_mul_of_pos_right _ (Nat.two_pow_pos _)
    rw [← e, ← e2] at h1
    exact ((leavesN_PB c o M hc o.length o.length (Nat.le_refl _)).mono hM (by omega)).join h1
/-- How many packs are lacking. -/
theorem listN_lack (c o : List Nat) (h : 1 ≤ o.length) : ∀ r, 2 * o.length ≤ (listN c o r).length + 1 + (o.length - 1) / 2 ^ r
  | 0 => by simp [listN, leavesN_length]; omega
  | r + 1 => by
    have ih := listN_lack c o h r
    rw [listN_length, Nat.pow_succ, ← Nat.div_div_eq_div_mul]
    generalize (o.length - 1) / 2 ^ r = d at *
    omega
theorem listN_enough (c o : List Nat) (most : Nat) (hm : 1 ≤ most) (h : 2 ≤ o.length) (ho : o.length ≤ 2 ^ most) : 2 * o.length - 2 ≤ (listN c o (most - 1)).length := by
  have h1 := listN_lack c o (by omega) (most - 1)
  have e : 2 ^ most = 2 * 2 ^ (most - 1) := by
    obtain ⟨k, rfl⟩ : ∃ k, most = k + 1 := ⟨most - 1, by omega⟩
    exact Nat.pow_succ' ..
  have h2 : (o.length - 1) / 2 ^ (most - 1) < 2 := by
    rw [Nat.div_lt_iff_lt_mul (Nat.two_pow_pos _)]
    omega
  omega
/-- The lengths behind the first k places of one pack. -/
def bumpIn (o l : List Nat) (out : List Nat) : Nat → List Nat
  | 0 => out
  | k + 1 => incr (bumpIn o l out k) (gN o (gN l k))
/-- The lengths behind the first k packs. -/
def bump (o : List Nat) (ps : List (Nat × List Nat)) (out : List Nat) : Nat → List Nat
  | 0 => out
  | k + 1 => bumpIn o (gP ps k).2 (bump o ps out k) (gP ps k).2.length
theorem bumpIn_length (o l out : List Nat) : ∀ k, (bumpIn o l out k).length = out.length
  | 0 => rfl
  | k + 1 => by simp [bumpIn, incr_length, bumpIn_length o l out k]
theorem bump_length (o : List Nat) (ps : List (Nat × List Nat)) (out : List Nat) : ∀ k, (bump o ps out k).length = out.length
  | 0 => rfl
  | k + 1 => by rw [bump, bumpIn_length, bump_length o ps out k]
theorem bumpIn_le (o l out : List Nat) (B : Nat) (h : ∀ j, gN out j ≤ B) : ∀ k j, gN (bumpIn o l out k) j ≤ B + k
  | 0, j => h j
  | k + 1, j => by
    have := bumpIn_le o l out B h k j
    have := gN_incr (bumpIn o l out k) (gN o (gN l k)) j
    rw [bumpIn]
    omega
theorem bump_le (o : List Nat) (ps : List (Nat × List Nat)) (out : List Nat) (B L : Nat) (h : ∀ j, gN out j ≤ B) (hp : ∀ p ∈ ps, p.2.length ≤ L) : ∀ k, k ≤ ps.length → ∀ j, gN (bump o ps out k) j ≤ B + k * L
  | 0, _, j => by simpa [bump] using h j
  | k + 1, hk, j => by
    have h1 := bump_le o ps out B L h hp k (by omega)
    have h2 := bumpIn_le o (gP ps k).2 (bump o ps out k) (B + k * L) h1 (gP ps k).2.length j
    have h3 := hp _ (gP_mem ps k (by omega))
    rw [bump, Nat.add_mul]
    omega
/-- The one word of the first k places. -/
def ones (o out : List Nat) : Nat → List Nat
  | 0 => out
  | k + 1 => (ones o out k).set (gN o k) 1
theorem ones_length (o out : List Nat) : ∀ k, (ones o out k).length = out.length
  | 0 => rfl
  | k + 1 => by simp [ones, ones_length o out k]
/-- Lengths of words that cost least. -/
def mergeN (c : List Nat) (most : Nat) : List Nat :=
  if (orderN c).length < 2 then ones (orderN c) (List.replicate c.length 0) (orderN c).length
  else bump (orderN c) (listN c (orderN c) (most - 1)) (List.replicate c.length 0) (2 * (orderN c).length - 2)
end Go.Proofs.YtakoidkeaccgeaaDoor
