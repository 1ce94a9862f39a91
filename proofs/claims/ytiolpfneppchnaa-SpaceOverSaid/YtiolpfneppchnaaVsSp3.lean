/- The space (layer 5): put, there. -/
import Derived.Test.YtiolpfneppchnaaVsSp2
namespace Go.Proofs.Ytiolpfneppchnaa
open Go Go.RowKit Go.Vs

/-- what stays while an action goes on. -/
structure AEnv where
  a : Nat
  s : Nat
  l : Nat
  p : Nat
  d : Nat
  m : Nat
  pm : Nat
  gm : Nat
  K : Kept
  free : Int → Bool
  N : Nat

def ActR (E : AEnv) (w : World) (T : Tags) (cur : Nat → Bs) (gone : Int → Bool) (pv : Int → Option (Nat × Nat)) : Prop :=
  ∃ f, ActI w T E.a E.s E.l E.p E.d E.m E.pm E.gm f E.K E.free E.N cur gone pv

section
variable {E : AEnv} {w w' : World} {T T' : Tags} {cur : Nat → Bs} {gone : Int → Bool} {pv : Int → Option (Nat × Nat)}

theorem ActR.len (h : ActR E w T cur gone pv) {q : Nat} (hq : q < 4096) : (cur q).length = 512 := by obtain ⟨f, h⟩ := h; exact h.pg.2.2.2.2 q hq
theorem ActR.kept {C : Tag → Bool} (h : ActR E w T cur gone pv) (hs : Step C w T w' T') (hc : ∀ t, isAll t = true → C t = false) : ActR E w' T' cur gone pv := by
  obtain ⟨f, h⟩ := h; exact ⟨f, h.kept hs hc⟩
theorem ActR.c0 (h : ActR E w T cur gone pv) : w.cell? ⟨E.a, 0, none⟩ = some (ptr E.s) := by obtain ⟨f, h⟩ := h; exact h.ac.c0
theorem ActR.c1 (h : ActR E w T cur gone pv) : w.cell? ⟨E.a, 1, none⟩ = some (.map (some E.pm)) := by obtain ⟨f, h⟩ := h; exact h.ac.c1
theorem ActR.c2 (h : ActR E w T cur gone pv) : w.cell? ⟨E.a, 2, none⟩ = some (.map (some E.gm)) := by obtain ⟨f, h⟩ := h; exact h.ac.c2
theorem ActR.c3 (h : ActR E w T cur gone pv) : w.cell? ⟨E.a, 3, none⟩ = some (.bool false) := by obtain ⟨f, h⟩ := h; exact h.ac.c3

theorem act_page' (E : AEnv) {Q : Int} (q : Nat) (hQ : Q = (q : Int)) (cur : Nat → Bs) (gone : Int → Bool) (pv : Int → Option (Nat × Nat)) (w : World) (T : Tags) (hf : Fresh w T) (h : ActR E w T cur gone pv) (hq : q < 4096) (hN : E.N < 1099511627770) :
    Calls Try.prog 43 #[ptr E.a, .int .i64 Q] w fun e w' => ∃ g cap, e = .returned (.slice (some ⟨g, 0, none⟩) 512 cap) ∧ BlkB w' 5 g cap (cur q) ∧ ∃ T', T' g = .abytes q ∧ ActR E w' T' cur gone pv ∧ Step isAct w T w' T' := by
  subst hQ
  obtain ⟨f, h⟩ := h
  exact act_page E.a E.s E.l E.p E.d E.m E.pm E.gm q f E.K E.free E.N cur gone pv w T hf h hq hN

theorem act_total' (E : AEnv) (cur : Nat → Bs) (gone : Int → Bool) (pv : Int → Option (Nat × Nat)) (w : World) (T : Tags) (hf : Fresh w T) (h : ActR E w T cur gone pv) (hN : E.N < 1099511627770) :
    Calls Try.prog 45 #[ptr E.a] w fun e w' => e = .returned (.int .i64 (num4 (cur 0))) ∧ ∃ T', ActR E w' T' cur gone pv ∧ Step isAct w T w' T' := by
  obtain ⟨f, h⟩ := h
  exact act_total E.a E.s E.l E.p E.d E.m E.pm E.gm f E.K E.free E.N cur gone pv w T hf h hN

/-- bytes are laid into a page's block, by a cut and a copy. -/
theorem BlkB_cutCopy {g cap : Nat} {bs : Bs} (h : BlkB w 5 g cap bs) (at' : Nat) (s : ByteArray) (hb : bs.length = 512) (hfit : at' + s.size ≤ 512) :
    ∃ r w', (Instr.sliceAt 69 (.slice (some ⟨g, 0, none⟩) 512 cap) (some (.int .i64 at')) none none).run Try.prog w = .ok r w ∧
      (Builtin.copy_ #[69, 9] 3 #[r, .string s]).run Try.prog w = .ok (.int .i64 s.size) w' ∧ BlkB w' 5 g cap (lay bs at' s.data.toList) ∧ w.grownBy w' (some g) ∧ w'.heap.size = w.heap.size := by
  have h' := h
  obtain ⟨cur, fr, hg, hth, hsz, hle, hm, ht⟩ := h'
  have hb1 : (Instr.sliceBounds true 512 cap (some (.int .i64 at')) none none).run Try.prog w = .ok ((at' : Int).toNat, 512, cap) w := bounds_l _ _ _ _ (by omega) (by omega)
  have hr := run_cut (P := Try.prog) (w := w) 69 5 und_bytes size_u8 (some ⟨g, 0, none⟩) 512 cap (some (.int .i64 at')) none none _ 512 cap hb1
  rw [Int.toNat_natCast] at hr
  by_cases hs : s.size = 0
  · have es : s = ⟨#[]⟩ := by
      have : s.data.size = 0 := hs
      cases s with | mk d => simp at this; subst this; rfl
    subst es
    have hl : lay bs at' (⟨#[]⟩ : ByteArray).data.toList = bs := lay_nil bs at'
    refine ⟨_, w, hr, ?_, by rw [hl]; exact h, ⟨rfl, rfl, rfl, Nat.le_refl _, fun _ _ _ => rfl⟩, rfl⟩
    exact run_copy_str_nil w _ _ _ 5 _ _ _ und_bytes size_u8
  · have hne : ¬ cap = at' := by omega
    rw [if_neg hne] at hr
    have ea : (some (⟨g, 0, none⟩ : Addr)).map (·.add at') = some ⟨g, at', none⟩ := by simp [Addr.add_lit]
    rw [ea] at hr
    obtain ⟨w', h1, h2, h3, h4⟩ := h.lay (P := Try.prog) at' s (by omega) 69 9 3 (512 - at') (cap - at') (by omega) und_bytes size_u8
    exact ⟨_, w', hr, h1, h2, h3, h4⟩

/-- an action's map of pages takes a block. -/
theorem PagesM.put {m : Nat} {base : Nat → Bs} (hf : Fresh w T) {q g cap : Nat} {bs : Bs} (h1 : T m = .apages) (h2 : IMap w m (pagesV pv)) (h3 : ∀ k x, pv k = some x → k ≠ q → ∃ q : Nat, k = q ∧ q < 4096 ∧ T x.1 = .abytes q ∧ BlkB w 5 x.1 x.2 (cur q))
    (h4 : ∀ q : Nat, q < 4096 → pv q = none → cur q = base q) (h5 : ∀ q, q < 4096 → (cur q).length = 512) (hq : q < 4096) (hg : BlkB w 5 g cap bs) (hT : T g = .abytes q) (hl : bs.length = 512) :
    ∃ o, (Instr.mapUpdate 44 (.map (some m)) (.int .i64 q) (.slice (some ⟨g, 0, none⟩) 512 cap)).run Try.prog w = .ok () (putObj w m o) ∧
      PagesM (putObj w m o) T m base (upd cur q bs) (mupd pv q (some (g, cap))) ∧ Step (fun t => t == .apages) w T (putObj w m o) T := by
  obtain ⟨o, hr, hm⟩ := run_update (P := Try.prog) 44 3 69 und_amap und_int h2 (q : Int) (.slice (some ⟨g, 0, none⟩) 512 cap)
  have hs : Step (fun t => t == .apages) w T (putObj w m o) T := (Step.refl hf).putObj (by rw [h1]; rfl)
  refine ⟨o, hr, ⟨h1, ?_, ?_, ?_, ?_⟩, hs⟩
  · have e : pagesV (mupd pv q (some (g, cap))) = mupd (pagesV pv) q (some (.slice (some ⟨g, 0, none⟩) 512 cap)) := by
      funext k
      by_cases e : k = q
      · subst e; simp [pagesV, mupd_same]
      · simp [pagesV, mupd_other _ _ e]
    rw [e]; exact hm
  · intro k x hk
    by_cases e : k = q
    · subst e
      rw [mupd_same] at hk
      cases hk
      refine ⟨q, rfl, hq, hT, ?_⟩
      rw [upd_same]
      exact hg.kept (hs.same g hg.lt (by rw [hT]; rfl))
    · rw [mupd_other _ _ e] at hk
      obtain ⟨r, e1, e2, e3, e4⟩ := h3 k x hk e
      refine ⟨r, e1, e2, e3, ?_⟩
      rw [upd_other _ _ (by omega)]
      exact e4.kept (hs.same _ e4.lt (by rw [e3]; rfl))
  · intro r hr hn
    by_cases e : (r : Int) = q
    · rw [e, mupd_same] at hn; cases hn
    · rw [mupd_other _ _ e] at hn
      rw [upd_other _ _ (by omega)]
      exact h4 r hr hn
  · intro r hr
    by_cases e : r = q
    · subst e; rw [upd_same]; exact hl
    · rw [upd_other _ _ e]; exact h5 r hr

theorem FreeM.look {m : Nat} {free : Int → Bool} (h : FreeM w T m free) (k : Int) : (Instr.lookup 45 (.map (some m)) (.int .i64 k) false).run Try.prog w = .ok (.bool (free k)) w := by
  obtain ⟨i0, hi0, hz0, hz1, hz2⟩ := info_parts info_bool
  have hl := run_lookup (P := Try.prog) (w := w) 45 3 4 und_bmap und_int hi0 hz0 h.2 k false
  rw [hl]
  unfold setV
  cases free k <;> rfl

theorem ActR.look (h : ActR E w T cur gone pv) (k : Int) : (Instr.lookup 45 (.map (some E.gm)) (.int .i64 k) false).run Try.prog w = .ok (.bool (gone k)) w := by
  obtain ⟨f, h⟩ := h; exact h.go.look k
end

set_option maxRecDepth 100000 in
set_option maxHeartbeats 800000 in
theorem act_there (E : AEnv) (n : Int) (cur : Nat → Bs) (gone : Int → Bool) (pv : Int → Option (Nat × Nat)) (w : World) (T : Tags) (hf : Fresh w T) (h : ActR E w T cur gone pv) (hN : E.N < 1099511627770) :
    Calls Try.prog 47 #[ptr E.a, .int .i64 n] w fun e w' => e = .returned (.int .i64 (if 1 ≤ n ∧ n ≤ num4 (cur 0) ∧ gone n = false then 0 else 3)) ∧ ∃ T', ActR E w' T' cur gone pv ∧ Step isAct w T w' T' := by
  have hgo := act_going E.a E.s false w h.c0 h.c3
  have htot := act_total' E cur gone pv w T hf h hN
  have H := Lib.hid h; have HT := Lib.hid htot
  clear h htot
  by_cases h1 : n < 1
  · rw [if_neg (by omega)]
    go_enter Try.func47, Try.ntmps47
    go_wp2_with (go_at_call 42; refine hgo.mono ?_; rintro e w' ⟨rfl, rfl⟩)
    go_ret
    exact ⟨rfl, T, H.out, Step.refl hf⟩
  · by_cases h2 : (num4 (cur 0) : Int) < n
    · rw [if_neg (by omega)]
      go_enter Try.func47, Try.ntmps47
      go_wp2_with (go_at_call 42; refine hgo.mono ?_; rintro e w' ⟨rfl, rfl⟩)
      refine HT.out.mono ?_
      rintro e1 w1 ⟨rfl, T1, hA, hS⟩
      have HA := Lib.hid hA; have HS := Lib.hid hS
      clear hA hS
      go_wp2
      go_ret
      exact ⟨rfl, T1, HA.out, HS.out⟩
    · obtain ⟨gn, hgn⟩ : ∃ gn, gn = gone n := ⟨_, rfl⟩
      have hif : (if 1 ≤ n ∧ n ≤ num4 (cur 0) ∧ gone n = false then (0 : Int) else 3) = if gn then 3 else 0 := by
        rw [hgn]
        have a : 1 ≤ n := by omega
        have b : n ≤ num4 (cur 0) := by omega
        cases hg : gone n <;> simp [a, b]
      rw [hif]
      clear hif
      go_enter Try.func47, Try.ntmps47
      go_wp2_with (go_at_call 42; refine hgo.mono ?_; rintro e w' ⟨rfl, rfl⟩)
      refine HT.out.mono ?_
      rintro e1 w1 ⟨rfl, T1, hA, hS⟩
      have k2 := hA.c2
      have hl := hA.look n
      rw [← hgn] at hl
      have HA := Lib.hid hA; have HS := Lib.hid hS
      clear hA hS hgn
      cases gn
      all_goals
        go_wp2
        go_ret
        exact ⟨rfl, T1, HA.out, HS.out⟩

set_option maxRecDepth 100000 in
set_option maxHeartbeats 800000 in
theorem act_put (E : AEnv) {Q A : Int} (q at' : Nat) (hQ : Q = (q : Int)) (hA : A = (at' : Int)) (s : ByteArray) (cur : Nat → Bs) (gone : Int → Bool) (pv : Int → Option (Nat × Nat)) (w : World) (T : Tags) (hf : Fresh w T) (h : ActR E w T cur gone pv) (hq : q < 4096) (hs : at' + s.size ≤ 512) (hN : E.N < 1099511627770) :
    Calls Try.prog 44 #[ptr E.a, .int .i64 Q, .int .i64 A, .string s] w fun e w' => e = .returned (.tuple #[]) ∧ ∃ T' pv', ActR E w' T' (upd cur q (lay (cur q) at' s.data.toList)) gone pv' ∧ (∀ k, pv' k = none ↔ k ≠ q ∧ pv k = none) ∧ Step isAct w T w' T' := by
  subst hQ; subst hA
  have hpg := act_page' E q rfl cur gone pv w T hf h hq hN
  have H := Lib.hid h; have HP := Lib.hid hpg
  clear h hpg
  go_enter Try.func44, Try.ntmps44
  go_wp2_with fail
  refine HP.out.mono ?_
  rintro e1 w1 ⟨g, cap, rfl, hB, T1, hTg, hA, hS⟩
  have hlen := hA.len hq
  obtain ⟨r, w2, hcut, hcopy, hB2, hg2, hz2⟩ := BlkB_cutCopy hB at' s hlen hs
  obtain ⟨f1, hI⟩ := hA
  have s1 : Step (fun t => t == .abytes q) w1 T1 w2 T1 := (Step.refl hS.fresh).grown hg2 (fun k hk => by cases hk; rw [hTg]; simp)
  have s1' : Step isAct w1 T1 w2 T1 := s1.mono (fun t ht => by rw [beq_iff_eq] at ht; rw [ht]; rfl)
  have hm1 : IMap w2 E.pm (pagesV pv) := hI.pg.2.1.keptStep hI.pg.1 s1 rfl
  have hx : ∀ k x, pv k = some x → k ≠ q → ∃ q : Nat, k = q ∧ q < 4096 ∧ T1 x.1 = .abytes q ∧ BlkB w2 5 x.1 x.2 (cur q) := by
    intro k x hk hne
    obtain ⟨q2, e7, e8, e9, e10⟩ := hI.pg.2.2.1 k x hk
    exact ⟨q2, e7, e8, e9, e10.kept (s1.same _ e10.lt (by rw [e9]; simp; omega))⟩
  have hl2 : (lay (cur q) at' s.data.toList).length = 512 := by
    have : s.data.toList.length = s.size := rfl
    rw [lay_length _ _ _ (by omega)]; exact hlen
  obtain ⟨o, hup, hPM, hsm⟩ := PagesM.put s1.fresh hI.pg.1 hm1 hx hI.pg.2.2.2.1 hI.pg.2.2.2.2 hq hB2 hTg hl2
  have hA2 := hI.ac.kept s1 rfl
  have k1 := hA2.c1
  have hsp := (hI.sp.kept s1 (fun t ht => by cases t <;> first | rfl | cases ht)).kept hsm (fun t ht => by cases t <;> first | rfl | cases ht)
  have hgo := (hI.go.kept s1 rfl).kept hsm rfl
  have hac := hA2.kept hsm rfl
  have HF : Hid (ActR E (putObj w2 E.pm o) T1 (upd cur q (lay (cur q) at' s.data.toList)) gone (mupd pv q (some (g, cap)))) := Lib.hid ⟨f1, hsp, hac, hPM, hgo, hI.ne⟩
  have HS : Hid (Step isAct w T (putObj w2 E.pm o) T1) := Lib.hid ((hS.trans s1').trans (hsm.mono (fun t ht => by rw [beq_iff_eq] at ht; rw [ht]; rfl)))
  clear hI hm1 hx hPM hsm hA2 hsp hgo hac s1 s1' hS hB hB2 hg2 hz2 hl2 hTg
  go_wp2_with (with_reducible refine hold_slice _ _ _ _ _ rfl ?_)
  unfold Hold
  refine wpList_sliceOp rfl _ _ _ _ _ rfl hcut ?_
  go_wp2
  go_end0
  refine ⟨rfl, T1, mupd pv q (some (g, cap)), HF.out, fun k => ?_, HS.out⟩
  by_cases e : k = q
  · subst e; rw [mupd_same]; simp
  · rw [mupd_other _ _ e]; simp [e]
end Go.Proofs.Ytiolpfneppchnaa
