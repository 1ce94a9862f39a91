/- What the laws of layer 5 share: a space on an empty disk; seen, stands of the empty state; awake. -/
import Derived.Test.YtiolpfneppchnaaVsSp12
namespace Go.Proofs.Ytiolpfneppchnaa
open Go Go.RowKit Go.Vs

theorem isAll_act : ∀ t, isAct t = true → isAll t = true := by
  intro t ht
  cases t <;> first | rfl | exact ht
theorem isAll_sp : ∀ t, isSp t = true → isAll t = true := by
  intro t ht
  cases t <;> first | rfl | exact ht
theorem isAll_begin : ∀ t, isBegin t = true → isAll t = true := by
  intro t ht
  cases t <;> first | rfl | cases ht
theorem isAll_end : ∀ t, isEnd t = true → isAll t = true := by
  intro t ht
  cases t <;> first | rfl | cases ht
theorem isAll_disk : ∀ t, isDisk t = true → isAll t = true := by
  intro t ht
  cases t <;> first | rfl | cases ht

/-- nothing is committed. -/
def K0 : Kept := ⟨fun _ => zeros 512, []⟩

theorem J0 : J (fun _ => []) K0 := by
  refine ⟨rfl, fun r hr => (by cases hr), fun q _ => ?_⟩
  simp only [K0, layE, List.flatten_nil, List.foldl_nil]
  exact pg_nil q
theorem Meta0 : Meta K0.base [] where
  len := fun _ _ => zeros_length 512
  tle := by show num4 (zeros 512) < 4096; rw [num4_zeros]; omega
  chain := num4_zeros_drop 4
  nodup := List.nodup_nil
theorem tot0 : tot K0.base = 0 := num4_zeros
theorem root0 (k : Nat) : rootOf K0.base k = 0 := num4_zeros_drop _

/-- what an action sees where nothing is. -/
def V0 : View := viewOf K0.base []
theorem V0_pages (q : Nat) : V0.pages q = none := by
  show (if 1 ≤ q ∧ q ≤ tot K0.base ∧ q ∉ [] then _ else _) = _
  rw [tot0, if_neg (by omega)]
theorem view_zero (cur : Nat → Bs) (fl : List Nat) : (viewOf cur fl).pages 0 = none := by
  unfold viewOf
  simp
theorem V0_roots (k : Nat) : V0.roots k = 0 := root0 k
theorem V0_total : V0.total = 0 := tot0

/-- the disk under a space at rest. -/
theorem SpR.disk {w : World} {T : Tags} {s d N : Nat} {K : Kept} {fl : List Nat} (h : SpR w T s d K fl N) : ∃ f nr, DiskR w T d f nr ∧ J f K ∧ nr ≤ N ∧ (f 1).length ≤ 2097152 := by
  obtain ⟨l, p, m, f, free, hI, hM, hG⟩ := h
  obtain ⟨n, most, hand, fr, at', nr, hPM, hD, hL⟩ := hI.pl
  exact ⟨f, nr, hD, hI.jj, by have := hL.cnt; omega, hL.flen⟩

theorem SpR.metaOf {w : World} {T : Tags} {s d N : Nat} {K : Kept} {fl : List Nat} (h : SpR w T s d K fl N) : Meta K.base fl := by
  obtain ⟨l, p, m, f, free, hI, hM, hG⟩ := h; exact hM

theorem ActV.c0 {E : AEnv} {w : World} {T : Tags} {V : View} (h : ActV E w T V) : w.cell? ⟨E.a, 0, none⟩ = some (ptr E.s) := by
  obtain ⟨cur, fl, gone, pv, hA, _⟩ := h; exact hA.c0
theorem ActV.c3 {E : AEnv} {w : World} {T : Tags} {V : View} (h : ActV E w T V) : w.cell? ⟨E.a, 3, none⟩ = some (.bool false) := by
  obtain ⟨cur, fl, gone, pv, hA, _⟩ := h; exact hA.c3

/-- a space is opened on a new disk, and an action begun. -/
theorem open_new (d frames : Nat) (w : World) (T : Tags) (hf : Fresh w T) (hd : DiskR w T d (fun _ => []) 0) (h1 : 4 ≤ frames) (h2 : frames ≤ 1024) :
    Calls Try.prog 8 #[ptr d, .int .i64 frames] w fun e w' => ∃ s, e = .returned (.tuple #[ptr s, .int .i64 0]) ∧ w.heap.size ≤ s ∧ ∃ T', SpR w' T' s d K0 [] 0 ∧ Step isSp w T w' T' :=
  space_open d frames w T _ 0 0 K0 [] hf hd J0 Meta0 h1 h2 (by simp) (by simp [K0]) (by omega)

theorem hold_load {P : Program} {ops : Array Oper} {rest : List Oper} {o : Oper} {a : Act} {Q : Exit → Act → World → Prop} {w : World} (t : TypeId) (x : Operand) (_ho : o.op = .load t x) (h : Hold (wpList P ops Q (o :: rest) a w)) : wpList P ops Q (o :: rest) a w := h

theorem space_pinned' (s d N : Nat) (K : Kept) (fl : List Nat) (w : World) (T : Tags) (hf : Fresh w T) (h : SpR w T s d K fl N) :
    Calls Try.prog 23 #[ptr s] w fun e w' => e = .returned (.int .i64 0) ∧ SpR w' T s d K fl N ∧ Step (fun _ => false) w T w' T := by
  obtain ⟨l, p, m, f, free, hI, hM, hG⟩ := h
  refine (space_pinned s p d N K.base f w T hf hI.sp.c1 hI.pl).mono ?_
  rintro e w' ⟨rfl, hb⟩
  have s1 : Step (fun _ => false) w T w' T := (Step.refl hf).below hb
  exact ⟨rfl, ⟨l, p, m, f, free, hI.kept s1 (fun _ _ => rfl), hM, hG⟩, s1⟩

theorem SpR.kept {C : Tag → Bool} {w w' : World} {T T' : Tags} {s d N : Nat} {K : Kept} {fl : List Nat} (h : SpR w T s d K fl N) (hs : Step C w T w' T') (hc : ∀ t, isSpR t = true → C t = false) : SpR w' T' s d K fl N := by
  obtain ⟨l, p, m, f, free, hI, hM, hG⟩ := h
  exact ⟨l, p, m, f, free, hI.kept hs hc, hM, hG⟩

/-- the empty state, as the law's value. -/
def zState : Array Value := #[.slice none 0 0, .slice none 0 0, .int .i64 0, .int .i64 0, .int .i64 0, .int .i64 0, .int .i64 0, .int .i64 0, .int .i64 0, .int .i64 0, .int .i64 0, .int .i64 0, .int .i64 0, .int .i64 0, .int .i64 0, .int .i64 0, .int .i64 0, .int .i64 0]

theorem zState_at (k : Nat) (h : k < 16) : zState[2 + k]? = some (.int .i64 0) := by
  rcases k with _ | _ | _ | _ | _ | _ | _ | _ | _ | _ | _ | _ | _ | _ | _ | _ | k <;> first | rfl | omega

set_option maxRecDepth 100000 in
set_option maxHeartbeats 800000 in
theorem law_seen (E : AEnv) (V : View) (w : World) (T : Tags) (hf : Fresh w T) (h : ActV E w T V) (hN : E.N < 1099511627770) (hr : ∀ k, k < 16 → V.roots k = 0) (h0 : V.pages 0 = none) :
    Calls Try.prog 49 #[ptr E.a, .agg zState] w fun e w' => e = .returned (.bool true) ∧ ∃ T', ActV E w' T' V ∧ Step isAct w T w' T' := by
  have H := Lib.hid h; have HR := Lib.hid hr; have H0 := Lib.hid h0
  clear h hr h0
  unfold zState
  go_enter Try.func49, Try.ntmps49
  go_wp2_with fail
  obtain ⟨so, hso⟩ : ∃ so, so = Obj.cells #[.slice none 0 0, .slice none 0 0, .int .i64 0, .int .i64 0, .int .i64 0, .int .i64 0, .int .i64 0, .int .i64 0, .int .i64 0, .int .i64 0, .int .i64 0, .int .i64 0, .int .i64 0, .int .i64 0, .int .i64 0, .int .i64 0, .int .i64 0, .int .i64 0] 41 := ⟨_, rfl⟩
  refine wp_loop_rounds 1 ?_
  rw [rounds_succ]
  go_wp2_with fail
  rw [← hso]
  obtain ⟨b, hb⟩ : ∃ b, b = w.heap.size := ⟨_, rfl⟩
  rw [← hb]
  obtain ⟨w1, hw1⟩ : ∃ w1, w1 = w.alloc so := ⟨_, rfl⟩
  rw [← hw1]
  have s1 : Step (fun _ => false) w T w1 T := by rw [hw1]; exact (Step.refl hf).alloc _
  have hbk : w1.heap[b]? = some so := by rw [hw1, hb]; exact alloc_new
  rw [hso] at hbk
  have hTb : T b = .none := hf b (by omega)
  have H1 := Lib.hid (H.out.kept s1 (fun _ _ => rfl)); have HS1 := Lib.hid (s1.mono (D := isAct) (fun t ht => by cases ht)); have HBK := Lib.hid hbk
  clear hso hw1 s1 hbk H hb
  go_loopw [8, 9, 10] (fun u8 _ _ wr => ∃ (k : Nat) (T2 : Tags), u8 = .int .i64 k ∧ k ≤ 16 ∧ Hid (ActV E wr T2 V) ∧ Hid (Step isAct w T wr T2) ∧ Hid (Step isAct w1 T wr T2)) (fun u8 _ _ _ => 16 - (intOf u8).toNat)
  case atStart => exact ⟨0, T, rfl, by omega, H1, HS1, Lib.hid (Step.refl HS1.out.fresh)⟩
  case round =>
    obtain ⟨k, T2, rfl, hk, H2, HS2, HSB⟩ := hrel
    by_cases hk2 : k < 16
    · have hrt := act_root E k rfl hk2 V wr T2 HS2.out.fresh H2.out hN
      rw [HR.out k hk2] at hrt
      have HRT := Lib.hid hrt
      have hki : (k : Int) < 16 := by omega
      clear hrt
      go_wp2_with fail
      refine HRT.out.mono ?_
      rintro e3 w3 ⟨rfl, T3, hA3, hS3⟩
      have sb := HSB.out.trans hS3
      have kb : w3.cell? ⟨b, 2 + k, none⟩ = some (.int .i64 0) := by
        rw [cell_at (sb.at HBK.out (by rw [hTb]; rfl))]
        exact zState_at k hk2
      have H3 := Lib.hid hA3; have HS3 := Lib.hid (HS2.out.trans hS3); have HSB3 := Lib.hid sb
      clear hA3 hS3 sb
      go_wp2_with fail
      go_round
      case rel => exact ⟨k + 1, T3, by go_num, by omega, H3, HS3, HSB3⟩
      case measure => simp [intOf]; omega
    · obtain rfl : k = 16 := by omega
      have hrd := act_read_no E 0 V wr T2 HS2.out.fresh H2.out hN (fun q hq => by
        obtain rfl : q = 0 := by omega
        exact H0.out)
      have HRD := Lib.hid hrd
      clear hrd
      go_wp2_with fail
      refine HRD.out.mono ?_
      rintro e3 w3 ⟨rfl, T3, hA3, hS3⟩
      have hrb := act_root_bad E 16 (.inr (by omega)) V w3 T3 hA3
      have H3 := Lib.hid hA3; have HS3 := Lib.hid (HS2.out.trans hS3); have HRB := Lib.hid hrb
      clear hA3 hS3 hrb
      go_wp2_with fail
      refine HRB.out.mono ?_
      rintro e4 w4 ⟨rfl, rfl⟩
      go_wp2_with fail
      go_ret
      exact ⟨rfl, T3, H3.out, HS3.out⟩

set_option maxRecDepth 100000 in
set_option maxHeartbeats 800000 in
theorem law_stands (s d N : Nat) (K : Kept) (w : World) (T : Tags) (hf : Fresh w T) (h : SpR w T s d K [] N) (hN : N < 1099511627770) (ht : tot K.base = 0) (hr : ∀ k, k < 16 → rootOf K.base k = 0) :
    Calls Try.prog 14 #[ptr s, .agg zState] w fun e w' => e = .returned (.bool true) ∧ ∃ T', SpR w' T' s d K [] N ∧ Step isAll w T w' T' := by
  have H := Lib.hid h; have HT := Lib.hid ht; have HR := Lib.hid hr
  clear h ht hr
  unfold zState
  go_enter Try.func14, Try.ntmps14
  obtain ⟨so, hso⟩ : ∃ so, so = Obj.cells #[.slice none 0 0, .slice none 0 0, .int .i64 0, .int .i64 0, .int .i64 0, .int .i64 0, .int .i64 0, .int .i64 0, .int .i64 0, .int .i64 0, .int .i64 0, .int .i64 0, .int .i64 0, .int .i64 0, .int .i64 0, .int .i64 0, .int .i64 0, .int .i64 0] 41 := ⟨_, rfl⟩
  go_wp2_with fail
  rw [← hso]
  obtain ⟨w1, hw1⟩ : ∃ w1, w1 = w.alloc so := ⟨_, rfl⟩
  rw [← hw1]
  obtain ⟨b, hb⟩ : ∃ b, b = w.heap.size := ⟨_, rfl⟩
  rw [← hb]
  have s1 : Step (fun _ => false) w T w1 T := by rw [hw1]; exact (Step.refl hf).alloc _
  have hbk : w1.heap[b]? = some so := by rw [hw1, hb]; exact alloc_new
  rw [hso] at hbk
  have hTb : T b = .none := hf b (by omega)
  have hpg := space_pages s d N K [] w1 T s1.fresh (H.out.kept s1 (fun _ _ => rfl)) hN
  rw [HT.out] at hpg
  have HS1 := Lib.hid s1; have HBK := Lib.hid hbk; have HPG := Lib.hid hpg
  clear hso hw1 s1 hbk H hb hpg
  refine HPG.out.mono ?_
  rintro e2 w2 ⟨v, ks, rfl, hnd, hks, how, T2, _, hR2, hS2⟩
  have hk0 : ks = [] := by
    cases ks with
    | nil => rfl
    | cons x l => obtain ⟨q, hq, _⟩ := (hks x).1 (by simp); cases hq
  subst hk0
  obtain ⟨ao, cap, hva⟩ : ∃ ao cap, v = .slice ao 0 cap := by
    rcases how.2 with ⟨e, e2⟩ | ⟨g, cap, cur, e, _⟩
    · exact ⟨none, 0, e⟩
    · exact ⟨_, _, e⟩
  subst hva
  have hb2 := hS2.at HBK.out (by rw [hTb]; rfl)
  have kb : w2.cell? ⟨b, 0, none⟩ = some (.slice none 0 0) := by rw [cell_at hb2]; rfl
  have hpn := space_pinned' s d N K [] w2 T2 hS2.fresh hR2
  have HB2 := Lib.hid hb2; have HS2 := Lib.hid ((HS1.out.mono (D := isAll) (fun t ht => by cases ht)).trans (hS2.mono isAll_sp)); have HPN := Lib.hid hpn; have HT2 := Lib.hid (hS2.tagOf (lt_of_at HBK.out) hTb)
  clear hb2 hS2 hR2 hpn hnd hks how HPG HS1 HBK
  go_wp2_with fail
  refine HPN.out.mono ?_
  rintro e3 w3 ⟨rfl, hR3, hS3⟩
  have HB3 := Lib.hid (hS3.at HB2.out rfl); have HR3 := Lib.hid hR3; have HS3 := Lib.hid (HS2.out.trans (hS3.mono (fun t ht => by cases ht)))
  clear hR3 hS3 HPN HB2 HS2 kb
  go_wp2_with fail
  refine wp_loop_rounds 1 ?_
  rw [rounds_succ]
  have hbg := space_begin s d N K [] w3 T2 HS3.out.fresh HR3.out
  have HBG := Lib.hid hbg
  clear hbg
  go_wp2_with fail
  refine HBG.out.mono ?_
  rintro e4 w4 ⟨E, rfl, ⟨hEs, hEd, hEK, hEN, hEf⟩, _, hsame, T4, hA4, hS4⟩
  have hb4 : w4.heap[b]? = _ := hS4.at HB3.out (by rw [HT2.out]; rfl)
  have hT4 := hS4.tagOf (lt_of_at HB3.out) HT2.out
  have hsn := law_seen E (viewOf K.base []) w4 T4 hS4.fresh hA4 (by rw [hEN]; exact hN) HR.out (view_zero _ _)
  have HB4 := Lib.hid hb4; have HS4 := Lib.hid (HS3.out.trans (hS4.mono isAll_begin)); have HSN := Lib.hid hsn; have HT4 := Lib.hid hT4
  have HEs := Lib.hid hEs; have HEd := Lib.hid hEd; have HEK := Lib.hid hEK; have HEN := Lib.hid hEN; have HEf := Lib.hid hEf
  have HMT := Lib.hid HR3.out.metaOf
  clear hb4 hS4 hA4 hsn hsame HBG HB3 HS3 HR3 hT4 hEs hEd hEK hEN hEf
  go_wp2_with (with_reducible refine hold_load 41 _ rfl ?_)
  unfold Hold
  refine wpList_load_row rfl 41 _ rfl b rfl _ _ _ _ HB4.out Try.underlying41 rfl (by kernel_rfl) ?_
  go_wp2_with fail
  refine HSN.out.mono ?_
  rintro e5 w5 ⟨rfl, T5, hA5, hS5⟩
  have hab := act_abort E [] _ w5 T5 hS5.fresh hA5 (by rw [HEK.out]; exact HMT.out) HEf.out
  have HS5 := Lib.hid (HS4.out.trans (hS5.mono isAll_act)); have HAB := Lib.hid hab
  clear hA5 hS5 hab HSN
  go_wp2_with fail
  refine HAB.out.mono ?_
  rintro e6 w6 ⟨rfl, hR6, _, hS6⟩
  rw [HEs.out, HEd.out, HEK.out, HEN.out] at hR6
  have HR6 := Lib.hid hR6; have HS6 := Lib.hid (HS5.out.trans (hS6.mono isAll_end))
  clear hR6 hS6 HAB
  go_wp2_with fail
  go_ret
  exact ⟨rfl, T5, HR6.out, HS6.out⟩

theorem pages_upd (P : Nat → Option Bs) (r : Nat → Nat) (t q : Nat) (x : Option Bs) : (View.mk (upd P q x) r t).pages q = x := upd_same _ _ _
theorem roots_upd (P : Nat → Option Bs) (r : Nat → Nat) (t k n : Nat) : (View.mk P (upd r k n) t).roots k = n := upd_same _ _ _

/-- what a commit leaves is what the action saw. -/
theorem Sees.view {cur : Nat → Bs} {fl : List Nat} {V : View} (h : Sees cur fl V) : (∀ q, (viewOf cur fl).pages q = V.pages q) ∧ (∀ k, k < 16 → (viewOf cur fl).roots k = V.roots k) ∧ (viewOf cur fl).total = V.total := by
  refine ⟨fun q => ?_, fun k hk => (h.roots k hk).symm, h.total⟩
  rw [h.pages q, ← h.total]; rfl

set_option maxRecDepth 100000 in
set_option maxHeartbeats 1600000 in
theorem law_awake5 (w : World) (T : Tags) (hf : Fresh w T) :
    Calls Try.prog 15 #[] w fun e w' => e = .returned (.bool true) ∧ ∃ T', Step isAll w T w' T' := by
  have hdn := disk_new w T hf
  go_enter Try.func15, Try.ntmps15
  go_wp2_with fail
  refine hdn.mono ?_
  rintro e1 w1 ⟨rfl, T1, hD1, hS1⟩
  obtain ⟨d, hd⟩ : ∃ d, d = w.heap.size := ⟨_, rfl⟩
  rw [← hd] at hD1 ⊢
  have hop := open_new d 4 w1 T1 hS1.fresh hD1 (by omega) (by omega)
  have HOP := Lib.hid hop; have HS1 := Lib.hid (hS1.mono isAll_disk)
  clear hd hdn hop hD1 hS1
  go_wp2_with fail
  refine HOP.out.mono ?_
  rintro e2 w2 ⟨s, rfl, _, T2, hR2, hS2⟩
  have hbg := space_begin s d 0 K0 [] w2 T2 hS2.fresh hR2
  have HBG := Lib.hid hbg; have HS2 := Lib.hid (HS1.out.trans (hS2.mono isAll_sp))
  clear hbg hR2 hS2 HOP HS1
  go_wp2_with fail
  refine HBG.out.mono ?_
  rintro e3 w3 ⟨E, rfl, ⟨hEs, hEd, hEK, hEN, hEf⟩, _, _, T3, hA3, hS3⟩
  have hEN' : E.N < 1099511627770 := by rw [hEN]; omega
  have hal := act_alloc E V0 w3 T3 hS3.fresh hA3 hEN'
  have HAL := Lib.hid hal; have HS3 := Lib.hid (HS2.out.trans (hS3.mono isAll_begin))
  have HEs := Lib.hid hEs; have HEd := Lib.hid hEd; have HEK := Lib.hid hEK; have HEN := Lib.hid hEN
  clear hal hA3 hS3 HBG HS2 hEs hEd hEK hEN hEf
  go_wp2_with fail
  refine HAL.out.mono ?_
  rintro e4 w4 ⟨T4, hS4, ⟨q, rfl, _, hq1, _, hA4, hq2⟩ | ⟨_, _, hbad, _⟩⟩
  rotate_left
  · exfalso; rw [V0_total] at hbad; omega
  have hq : q = 1 := by rw [V0_total] at hq2; rcases hq2 with h | ⟨h, _⟩ <;> omega
  subst hq
  have hm1 : max V0.total 1 = 1 := by rw [V0_total]; rfl
  rw [hm1] at hA4
  have hwr := act_write E (n := 1) (A := 0) 1 0 rfl rfl ⟨#[97]⟩ (zeros 512) _ w4 T4 hS4.fresh hA4 hEN' (pages_upd _ _ _ _ _) (by show 0 + 1 ≤ 512; omega)
  have HWR := Lib.hid hwr; have HS4 := Lib.hid (HS3.out.trans (hS4.mono isAll_act))
  clear hwr hA4 hS4 HAL HS3 hm1 hq1 hq2
  go_wp2_with fail
  refine HWR.out.mono ?_
  rintro e5 w5 ⟨rfl, _, T5, hA5, hS5⟩
  rw [upd_upd] at hA5
  have hsr := act_setRoot E (n := 3) (M := 1) 3 1 rfl rfl (by omega) (by omega) _ w5 T5 hS5.fresh hA5 hEN'
  have HSR := Lib.hid hsr; have HS5 := Lib.hid (HS4.out.trans (hS5.mono isAll_act))
  clear hsr hA5 hS5 HWR HS4
  go_wp2_with fail
  refine HSR.out.mono ?_
  rintro e6 w6 ⟨rfl, T6, hA6, hS6⟩
  obtain ⟨cur, fl, gone, pv, hAR, hM, hG, hpv, hSe⟩ := hA6
  have htot : tot cur = 1 := hSe.total
  have hcm := act_commit E cur fl gone pv w6 T6 hS6.fresh hAR hM hG hpv (by omega) (by rw [HEK.out]; simp [K0, encR]; omega) (by rw [HEN.out]; omega)
  have HCM := Lib.hid hcm; have HS6 := Lib.hid (HS5.out.trans (hS6.mono isAll_act)); have HSE := Lib.hid hSe; have HM := Lib.hid hM; have HTT := Lib.hid htot
  clear hcm hAR hS6 HSR HS5 hSe hM hG hpv htot
  go_wp2_with fail
  refine HCM.out.mono ?_
  rintro e7 w7 ⟨rfl, T7, ⟨K', hKb, hR7, hKl, hKf⟩, _, hS7⟩
  rw [HEs.out, HEd.out, HEN.out, HTT.out] at hR7
  obtain ⟨f7, nr7, hD7, hJ7, hn7, hl7⟩ := hR7.disk
  have hMt := hR7.metaOf
  rw [HTT.out, HEK.out] at hKf
  have hop2 := space_open d 4 w7 T7 f7 nr7 100 K' fl hS7.fresh hD7 hJ7 hMt (by omega) (by omega) hl7 (by have hk0 : K0.recs.flatten.length = 0 := rfl; rw [hk0] at hKf; omega) (by omega)
  have HOP2 := Lib.hid hop2; have HS7 := Lib.hid (HS6.out.trans hS7); have HKB := Lib.hid hKb
  clear hop2 hR7 hS7 HCM HS6 hD7 hJ7 hn7 hl7 hMt hKl hKf hKb
  go_wp2_with fail
  refine HOP2.out.mono ?_
  rintro e8 w8 ⟨s8, rfl, _, T8, hR8, hS8⟩
  have hbg8 := space_begin s8 d 100 K' fl w8 T8 hS8.fresh hR8
  have HBG8 := Lib.hid hbg8; have HS8 := Lib.hid (HS7.out.trans (hS8.mono isAll_sp))
  clear hbg8 hR8 hS8 HOP2 HS7
  go_wp2_with fail
  refine HBG8.out.mono ?_
  rintro e9 w9 ⟨E9, rfl, ⟨_, _, _, hEN9, _⟩, _, _, T9, hA9, hS9⟩
  rw [HKB.out] at hA9
  obtain ⟨vp, vr, vt⟩ := HSE.out.view
  have hN9 : E9.N < 1099511627770 := by rw [hEN9]; omega
  have hrd := act_read_yes E9 (n := 1) 1 rfl (lay (zeros 512) 0 [97]) (viewOf cur fl) w9 T9 hS9.fresh hA9 hN9 ((vp 1).trans (pages_upd _ _ _ _ _))
  have hv3 : (viewOf cur fl).roots 3 = 1 := (vr 3 (by omega)).trans (roots_upd _ _ _ _ _)
  have HRD := Lib.hid hrd; have HS9 := Lib.hid (HS8.out.trans (hS9.mono isAll_begin)); have HV3 := Lib.hid hv3
  clear hrd hA9 hS9 HBG8 HS8 vp vr vt hEN9 hv3
  go_wp2_with fail
  refine HRD.out.mono ?_
  rintro e10 w10 ⟨rfl, hl10, T10, hA10, hS10⟩
  have hrt := act_root E9 (n := 3) 3 rfl (by omega) (viewOf cur fl) w10 T10 hS10.fresh hA10 hN9
  rw [HV3.out] at hrt
  have HRT := Lib.hid hrt; have HS10 := Lib.hid (HS9.out.trans (hS10.mono isAll_act))
  obtain ⟨sv, hsv, hsd, hss⟩ := str_split (lay (zeros 512) 0 [97])
  rw [hl10] at hss
  have h97 : ∀ h : 0 < sv.size, sv[0]'h = 97 := by
    intro h
    have h0 : sv.data.toList[0]? = some 97 := by rw [hsd]; rfl
    rw [Array.getElem?_toList] at h0
    exact (Array.getElem?_eq_some_iff.1 h0).2
  rw [hsv]
  have HSS := Lib.hid hss; have H97 := Lib.hid h97
  clear hrt hA10 hS10 HRD HS9 hsv hsd hl10 hss h97
  go_wp2_with fail
  refine HRT.out.mono ?_
  rintro e11 w11 ⟨rfl, T11, _, hS11⟩
  have HS11 := Lib.hid (HS10.out.trans (hS11.mono isAll_act))
  have hss := HSS.out
  have h97 := H97.out
  have hp : 0 < sv.size := by omega
  clear hS11 HRT HS10 HSE HM HTT HKB HV3 HEs HEd HEK HEN
  go_wp2
  go_ret
  exact ⟨rfl, T11, HS11.out⟩

end Go.Proofs.Ytiolpfneppchnaa
