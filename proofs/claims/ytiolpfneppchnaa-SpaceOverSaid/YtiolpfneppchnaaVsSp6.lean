/- The space (layer 5): Alloc, Free. -/
import Derived.Test.YtiolpfneppchnaaVsSp5
namespace Go.Proofs.Ytiolpfneppchnaa
open Go Go.RowKit Go.Vs

def goneSet (gone : Int → Bool) (q : Int) (b : Bool) : Int → Bool := fun k => if k = q then b else gone k

section
variable {E : AEnv} {w : World} {T : Tags} {cur : Nat → Bs} {gone : Int → Bool} {pv : Int → Option (Nat × Nat)} {fl : List Nat} {V : View}

theorem ActR.goneTurn (hf : Fresh w T) (h : ActR E w T cur gone pv) (o : Obj) (gone' : Int → Bool) (hm : IMap (putObj w E.gm o) E.gm (setV gone')) :
    ActR E (putObj w E.gm o) T cur gone' pv ∧ Step isAct w T (putObj w E.gm o) T := by
  obtain ⟨f, h⟩ := h
  have hs : Step (fun t => t == .free) w T (putObj w E.gm o) T := (Step.refl hf).putObj (by rw [h.go.1]; rfl)
  refine ⟨⟨f, ⟨h.sp.sp.kept hs rfl, ⟨h.sp.fr.1, h.sp.fr.2.kept (put_other h.ne)⟩, h.sp.lg.kept hs rfl, h.sp.pl.kept hs (fun t ht => by cases t <;> first | rfl | cases ht), h.sp.jj⟩, h.ac.kept hs rfl, h.pg.kept hs rfl (fun _ => rfl), ⟨h.go.1, hm⟩, h.ne⟩, hs.mono (fun t ht => by rw [beq_iff_eq] at ht; rw [ht]; rfl)⟩

theorem ActR.goneDel (hf : Fresh w T) (h : ActR E w T cur gone pv) (q : Int) (ty : TypeId) :
    ∃ o, (Builtin.delete_ #[45, 3] ty #[.map (some E.gm), .int .i64 q]).run Try.prog w = .ok (.tuple #[]) (putObj w E.gm o) ∧ ActR E (putObj w E.gm o) T cur (goneSet gone q false) pv ∧ Step isAct w T (putObj w E.gm o) T := by
  obtain ⟨f, h'⟩ := id h
  obtain ⟨o, hr, hm⟩ := run_delete (P := Try.prog) 45 3 4 ty 3 und_bmap und_int h'.go.2 q
  have e : mupd (setV gone) q none = setV (goneSet gone q false) := by
    funext k
    by_cases e : k = q
    · subst e; simp [mupd_same, setV, goneSet]
    · simp [mupd_other _ _ e, setV, goneSet, e]
  rw [e] at hm
  exact ⟨o, hr, h.goneTurn hf o _ hm⟩

theorem ActR.gonePut (hf : Fresh w T) (h : ActR E w T cur gone pv) (q : Int) :
    ∃ o, (Instr.mapUpdate 45 (.map (some E.gm)) (.int .i64 q) (.bool true)).run Try.prog w = .ok () (putObj w E.gm o) ∧ ActR E (putObj w E.gm o) T cur (goneSet gone q true) pv ∧ Step isAct w T (putObj w E.gm o) T := by
  obtain ⟨f, h'⟩ := id h
  obtain ⟨o, hr, hm⟩ := run_update (P := Try.prog) 45 3 4 und_bmap und_int h'.go.2 q (.bool true)
  have e : mupd (setV gone) q (some (.bool true)) = setV (goneSet gone q true) := by
    funext k
    by_cases e : k = q
    · subst e; simp [mupd_same, setV, goneSet]
    · simp [mupd_other _ _ e, setV, goneSet, e]
  rw [e] at hm
  exact ⟨o, hr, h.goneTurn hf o _ hm⟩

def zObj : Obj := .cells (cells (zeros 512)).toArray 5

theorem blk_zeros (w : World) : BlkB (w.alloc zObj) 5 w.heap.size 512 (zeros 512) := by
  have hz := zeros_length 512
  refine ⟨_, _, alloc_new, .inl rfl, ?_, by omega, by unfold maxLen; omega, ?_⟩
  · rw [List.size_toArray, cells_length, hz]
  · rw [List.toList_toArray, List.take_of_length_le (by rw [cells_length]; omega)]

/-- a page of noughts. -/
theorem ActR.blank (hf : Fresh w T) (h : ActR E w T cur gone pv) (q : Nat) (hq : q < 4096) :
    ∃ o, (Instr.mapUpdate 44 (.map (some E.pm)) (.int .i64 q) (.slice (some ⟨w.heap.size, 0, none⟩) 512 512)).run Try.prog (w.alloc zObj) = .ok () (putObj (w.alloc zObj) E.pm o) ∧
      ∃ T', ActR E (putObj (w.alloc zObj) E.pm o) T' (upd cur q (zeros 512)) gone (mupd pv q (some (w.heap.size, 512))) ∧ Step isAct w T (putObj (w.alloc zObj) E.pm o) T' := by
  obtain ⟨f, h⟩ := h
  have s0 : Step (fun _ => false) w T (w.alloc zObj) T := (Step.refl hf).alloc _
  have s1 : Step (fun t => t == .abytes q) w T (w.alloc zObj) (T.put w.heap.size (.abytes q)) := (Step.refl hf).allocTag _ (by simp)
  have hpg := h.pg
  have hx : ∀ k x, pv k = some x → k ≠ q → ∃ q : Nat, k = q ∧ q < 4096 ∧ (T.put w.heap.size (.abytes q)) x.1 = .abytes q ∧ BlkB (w.alloc zObj) 5 x.1 x.2 (cur q) := by
    intro k x hk hne
    obtain ⟨q2, e7, e8, e9, e10⟩ := hpg.2.2.1 k x hk
    have hlt := e10.lt
    exact ⟨q2, e7, e8, by rw [Tags.put_other _ _ (by omega)]; exact e9, e10.kept (alloc_old hlt)⟩
  have hx' : ∀ k x, pv k = some x → k ≠ q → ∃ r : Nat, k = r ∧ r < 4096 ∧ (T.put w.heap.size (.abytes q)) x.1 = .abytes r ∧ BlkB (w.alloc zObj) 5 x.1 x.2 (cur r) := by
    intro k x hk hne
    obtain ⟨q2, e7, e8, e9, e10⟩ := hpg.2.2.1 k x hk
    have hlt := e10.lt
    exact ⟨q2, e7, e8, by rw [Tags.put_other _ _ (by omega)]; exact e9, e10.kept (alloc_old hlt)⟩
  have hm1 : IMap (w.alloc zObj) E.pm (pagesV pv) := hpg.2.1.keptStep hpg.1 s1 rfl
  obtain ⟨o, hup, hPM, hsm⟩ := PagesM.put s1.fresh (s1.tagOf hpg.2.1.lt hpg.1) hm1 hx' hpg.2.2.2.1 hpg.2.2.2.2 hq (blk_zeros w) (Tags.put_same _ _ _) (zeros_length 512)
  have hsp := (h.sp.kept s1 (fun t ht => by cases t <;> first | rfl | cases ht)).kept hsm (fun t ht => by cases t <;> first | rfl | cases ht)
  have hgo := (h.go.kept s1 rfl).kept hsm rfl
  have hac := (h.ac.kept s1 rfl).kept hsm rfl
  exact ⟨o, hup, _, ⟨f, hsp, hac, hPM, hgo, h.ne⟩, (s1.mono (fun t ht => by rw [beq_iff_eq] at ht; rw [ht]; rfl)).trans (hsm.mono (fun t ht => by rw [beq_iff_eq] at ht; rw [ht]; rfl))⟩

theorem GoneIs.del {q : Nat} (h : GoneIs gone (q :: fl)) (hn : (q :: fl).Nodup) : GoneIs (goneSet gone q false) fl := by
  intro k
  unfold goneSet
  have hq := (List.nodup_cons.1 hn).1
  by_cases e : k = q
  · subst e
    simp only [if_true, Bool.false_eq_true, false_iff]
    rintro ⟨r, hr, e⟩
    have : r = q := by omega
    subst this; exact hq hr
  · rw [if_neg e, h k]
    constructor
    · rintro ⟨r, hr, e'⟩
      rcases List.mem_cons.1 hr with rfl | hr
      · exact absurd e' e
      · exact ⟨r, hr, e'⟩
    · rintro ⟨r, hr, e'⟩; exact ⟨r, List.mem_cons_of_mem _ hr, e'⟩

theorem GoneIs.add (h : GoneIs gone fl) (q : Nat) : GoneIs (goneSet gone q true) (q :: fl) := by
  intro k
  unfold goneSet
  by_cases e : k = q
  · subst e; simp
  · rw [if_neg e, h k]
    constructor
    · rintro ⟨r, hr, e'⟩; exact ⟨r, List.mem_cons_of_mem _ hr, e'⟩
    · rintro ⟨r, hr, e'⟩
      rcases List.mem_cons.1 hr with rfl | hr
      · exact absurd e' e
      · exact ⟨r, hr, e'⟩
end


set_option maxRecDepth 100000 in
set_option maxHeartbeats 800000 in
theorem act_alloc_free (E : AEnv) (q : Nat) (cur : Nat → Bs) (fl : List Nat) (gone : Int → Bool) (pv : Int → Option (Nat × Nat)) (V : View) (w : World) (T : Tags) (hf : Fresh w T) (hA : ActR E w T cur gone pv) (hN : E.N < 1099511627770) (hM : Meta cur (q :: fl)) (hG : GoneIs gone (q :: fl)) (hpv : ∀ q : Nat, pv q ≠ none → q ≤ tot cur) (hS : Sees cur (q :: fl) V) :
    Calls Try.prog 11 #[ptr E.a] w fun e w' => e = .returned (.tuple #[.int .i64 q, .int .i64 0]) ∧ ∃ T', ActV E w' T' { V with pages := upd V.pages q (some (zeros 512)) } ∧ Step isAct w T w' T' := by
  obtain ⟨hM2, hS2, et, hVq, hhd, hq1, hq2⟩ := Sees.allocFree hM hS
  have hq : q < 4096 := by have := hM.tle; omega
  have hgo := act_going E.a E.s false w hA.c0 hA.c3
  have hp := act_page' E (Q := 0) 0 rfl cur gone pv w T hf hA (by omega) hN
  have hl0 : (cur 0).length = 512 := hM.len 0 (by omega)
  have hlq : (cur q).length = 512 := hM.len q hq
  have hdel := hG.del hM.nodup
  have HP := Lib.hid hp; have HM := Lib.hid hM2; have HG := Lib.hid hdel; have HV := Lib.hid hpv; have HS := Lib.hid hS2; have HET := Lib.hid et; have HL := Lib.hid hl0; have HLQ := Lib.hid hlq
  have hqz : (q : Int) ≠ 0 := by omega
  unfold headOf at hhd
  have HHD := Lib.hid hhd
  clear hp hM hG hpv hS hA hM2 hS2 et hl0 hlq hdel hhd hVq
  go_enter Try.func11, Try.ntmps11
  go_wp2_with (go_at_call 42; refine hgo.mono ?_; rintro e w' ⟨rfl, rfl⟩)
  refine HP.out.mono ?_
  rintro e1 w1 ⟨g, cap, rfl, hB, T1, _, hA1, hS1⟩
  have hsb := hB.slb
  rw [HL.out] at hsb
  have HA1 := Lib.hid hA1; have HS1 := Lib.hid hS1; have HSB := Lib.hid hsb
  clear hA1 hS1 hB hsb HP hgo
  go_wp2_with (with_reducible refine hold_slice _ _ _ _ _ rfl ?_)
  unfold Hold
  refine wpList_cut_l rfl _ _ _ rfl _ und_bytes size_u8 rfl HSB.out rfl (by omega) (by rw [HL.out]; omega) ?_
  intro r hr _
  have e0 : (cur 0).drop (4 : Int).toNat = (cur 0).drop 4 := rfl
  rw [e0] at hr
  have hnum := fun wz hz => number_any r _ (by rw [List.length_drop, HL.out]; omega) wz (hz : SlB wz r ((cur 0).drop 4))
  rw [HHD.out] at hnum
  have HR := Lib.hid hr
  clear hr e0 HSB
  go_wp2_with (go_at_call 40; refine (hnum _ HR.out).mono ?_; rintro e w' ⟨rfl, kk, rfl⟩)
  have s1 : Step (fun _ => false) w1 T1 (w1.drewN kk) T1 := (Step.refl HS1.out.fresh).drewN kk
  have hp2 := act_page' E q rfl cur gone pv (w1.drewN kk) T1 s1.fresh (HA1.out.kept s1 (fun _ _ => rfl)) hq hN
  have HS2 := Lib.hid (HS1.out.trans (s1.mono (fun t ht => by cases ht)))
  have HP2 := Lib.hid hp2
  clear hp2 s1 HA1 HS1 HR hnum
  refine HP2.out.mono ?_
  rintro e3 w3 ⟨g3, cap3, rfl, hB3, T3, _, hA3, hS3⟩
  have hsb := hB3.slb
  rw [HLQ.out] at hsb
  have HA3 := Lib.hid hA3; have HS3 := Lib.hid (HS2.out.trans hS3); have HSB := Lib.hid hsb
  clear hA3 hS3 hB3 hsb HS2 HP2
  go_wp2_with (with_reducible refine hold_slice _ _ _ _ _ rfl ?_)
  unfold Hold
  refine wpList_cut_h rfl _ _ _ rfl _ und_bytes size_u8 rfl HSB.out rfl (by omega) (by rw [HLQ.out]; omega) ?_
  intro r3 hr3 _
  have e0 : (cur q).take (4 : Int).toNat = (cur q).take 4 := rfl
  rw [e0] at hr3
  have HR3 := Lib.hid hr3
  clear hr3 e0 HSB
  go_wp2_with (with_reducible refine hold_convert 69 9 _ rfl ?_)
  unfold Hold
  refine wpList_string rfl _ _ _ rfl _ und_bytes und_u8 und_string rfl HR3.out ?_
  obtain ⟨sv, hsv, hsd, hss⟩ := str_split ((cur q).take 4)
  rw [hsv]
  have hss4 : sv.size = 4 := by rw [hss, List.length_take, HLQ.out]; rfl
  have hp4 := act_put E (Q := 0) (A := 4) 0 4 rfl rfl sv cur gone pv w3 T3 HS3.out.fresh HA3.out (by omega) (by omega) hN
  rw [hsd] at hp4
  have HP4 := Lib.hid hp4
  clear hp4 hsv hsd hss HR3
  go_wp2_with fail
  refine HP4.out.mono ?_
  rintro e5 w5 ⟨rfl, T5, pv5, hA5, hpv5, hS5⟩
  obtain ⟨o, hdl, hA6, hS6⟩ := hA5.goneDel hS5.fresh (q : Int) 0
  have k2 := hA5.c2
  have k1 := hA6.c1
  have HA6 := Lib.hid hA6; have HS6 := Lib.hid ((HS3.out.trans hS5).trans hS6); have HPV := Lib.hid hpv5
  clear hA5 hA6 hS5 hS6 hpv5 HS3 HA3 HP4
  obtain ⟨w6, hw6⟩ : ∃ w6, w6 = (putObj w5 E.gm o) := ⟨_, rfl⟩
  have HA6' : Hid (ActR E w6.drew _ _ _ pv5) := Lib.hid (by rw [hw6]; exact (HA6.out.kept ((Step.refl (C := fun _ => false) HS6.out.fresh).drew) (fun _ _ => rfl)))
  obtain ⟨o8, hup, T8, hA8, hS8⟩ := HA6'.out.blank (T := _) (by rw [hw6]; exact HS6.out.fresh) q (by omega)
  have s7' := (HS6.out.drew)
  rw [← hw6] at s7'
  have hup' : (Instr.mapUpdate 44 (.map (some E.pm)) (.int .i64 q) (.slice (some ⟨w6.heap.size, 0, none⟩) 512 512)).run Try.prog (w6.alloc zObj).drew = .ok () (putObj (w6.alloc zObj).drew E.pm o8) := hup
  rw [← hw6] at k1
  have hlt6 := World.block_lt_of_cell? w6 _ k1
  have ka : ∀ o : Obj, (w6.alloc o).cell? ⟨E.a, 1, none⟩ = some (.map (some E.pm)) := fun o => by
    have := alloc_old (w := w6) (o := o) hlt6
    simp only [World.cell?, this] at k1 ⊢
    exact k1
  have hmk : ∀ wx : World, (Instr.makeSlice 69 (.int .i64 512) (.int .i64 512)).run Try.prog wx = .ok (.slice (some ⟨wx.heap.size, 0, none⟩) 512 512) (wx.alloc zObj) := fun wx => make_page wx
  have HA8 : Hid (ActR E (putObj (w6.alloc zObj).drew E.pm o8) T8 _ _ _) := Lib.hid hA8
  have HS8 : Hid (Step isAct w T (putObj (w6.alloc zObj).drew E.pm o8) T8) := Lib.hid (s7'.trans hS8)
  clear hup hA8 hS8 s7' hlt6
  go_wp2
  rw [← hw6]
  clear hw6
  go_region
  go_wp2
  go_ret2
  refine ⟨rfl, T8, ⟨_, fl, _, _, HA8.out, HM.out, HG.out, fun r hr => ?_, HS.out⟩, HS8.out⟩
  rw [HET.out]
  by_cases e : r = q
  · omega
  · rw [mupd_other _ _ (by omega)] at hr
    by_cases e0 : r = 0
    · omega
    · exact HV.out r (fun hn => hr ((HPV.out r).2 ⟨by omega, hn⟩))


set_option maxRecDepth 100000 in
set_option maxHeartbeats 800000 in
theorem act_alloc_full (E : AEnv) (cur : Nat → Bs) (gone : Int → Bool) (pv : Int → Option (Nat × Nat)) (V : View) (w : World) (T : Tags) (hf : Fresh w T) (hA : ActR E w T cur gone pv) (hN : E.N < 1099511627770) (hM : Meta cur []) (hG : GoneIs gone []) (hpv : ∀ q : Nat, pv q ≠ none → q ≤ tot cur) (hS : Sees cur [] V) (ht : tot cur = 4095) :
    Calls Try.prog 11 #[ptr E.a] w fun e w' => e = .returned (.tuple #[.int .i64 0, .int .i64 2]) ∧ ∃ T', ActV E w' T' V ∧ Step isAct w T w' T' := by
  have hhd : headOf cur = 0 := hM.chain
  have HM := Lib.hid hM; have HG := Lib.hid hG; have HV := Lib.hid hpv; have HS := Lib.hid hS; have HT := Lib.hid ht
  have ht4 : (4096 : Int) ≤ (num4 (cur 0) : Int) + 1 := by unfold tot at ht; omega
  have ht5 : (num4 (cur 0) : Int) < 4294967296 := by have := num4_lt (cur 0); omega
  clear hG hpv hS
  have hgo := act_going E.a E.s false w hA.c0 hA.c3
  have hp := act_page' E (Q := 0) 0 rfl cur gone pv w T hf hA (by omega) hN
  have hl0 : (cur 0).length = 512 := hM.len 0 (by omega)
  have HP := Lib.hid hp; have HL := Lib.hid hl0
  unfold headOf at hhd
  have HHD := Lib.hid hhd
  clear hp hA hl0 hhd
  go_enter Try.func11, Try.ntmps11
  go_wp2_with (go_at_call 42; refine hgo.mono ?_; rintro e w' ⟨rfl, rfl⟩)
  refine HP.out.mono ?_
  rintro e1 w1 ⟨g, cap, rfl, hB, T1, _, hA1, hS1⟩
  have hsb := hB.slb
  rw [HL.out] at hsb
  have HA1 := Lib.hid hA1; have HS1 := Lib.hid hS1; have HSB := Lib.hid hsb
  clear hA1 hS1 hB hsb HP hgo
  go_wp2_with (with_reducible refine hold_slice _ _ _ _ _ rfl ?_)
  unfold Hold
  refine wpList_cut_l rfl _ _ _ rfl _ und_bytes size_u8 rfl HSB.out rfl (by omega) (by rw [HL.out]; omega) ?_
  intro r hr _
  have e0 : (cur 0).drop (4 : Int).toNat = (cur 0).drop 4 := rfl
  rw [e0] at hr
  have hnum := fun wz hz => number_any r _ (by rw [List.length_drop, HL.out]; omega) wz (hz : SlB wz r ((cur 0).drop 4))
  rw [HHD.out] at hnum
  have HR := Lib.hid hr
  clear hr e0 HSB
  go_wp2_with (go_at_call 40; refine (hnum _ HR.out).mono ?_; rintro e w' ⟨rfl, kk, rfl⟩)
  have s1 : Step (fun _ => false) w1 T1 (w1.drewN kk) T1 := (Step.refl HS1.out.fresh).drewN kk
  have hp2 := act_total' E cur gone pv (w1.drewN kk) T1 s1.fresh (HA1.out.kept s1 (fun _ _ => rfl)) hN
  have HS2 := Lib.hid (HS1.out.trans (s1.mono (fun t ht => by cases ht)))
  have HP2 := Lib.hid hp2
  clear hp2 s1 HA1 HS1 HR hnum
  refine HP2.out.mono ?_
  rintro e3 w3 ⟨rfl, T3, hA3, hS3⟩
  have HA3 := Lib.hid hA3; have HS3 := Lib.hid (HS2.out.trans hS3)
  clear hA3 hS3 HS2 HP2
  obtain ⟨t, htt⟩ : ∃ t, t = num4 (cur 0) := ⟨_, rfl⟩
  rw [← htt] at ht4 ht5 ⊢
  clear htt ht hM
  go_wp2
  go_ret2
  exact ⟨rfl, T3, ⟨cur, [], gone, pv, HA3.out, HM.out, HG.out, HV.out, HS.out⟩, HS3.out⟩

set_option maxRecDepth 100000 in
set_option maxHeartbeats 800000 in
theorem act_alloc_new (E : AEnv) (cur : Nat → Bs) (gone : Int → Bool) (pv : Int → Option (Nat × Nat)) (V : View) (w : World) (T : Tags) (hf : Fresh w T) (hA : ActR E w T cur gone pv) (hN : E.N < 1099511627770) (hM : Meta cur []) (hG : GoneIs gone []) (hpv : ∀ q : Nat, pv q ≠ none → q ≤ tot cur) (hS : Sees cur [] V) (ht : tot cur + 1 < 4096) :
    Calls Try.prog 11 #[ptr E.a] w fun e w' => e = .returned (.tuple #[.int .i64 (tot cur + 1 : Nat), .int .i64 0]) ∧ ∃ T', ActV E w' T' { V with pages := upd V.pages (tot cur + 1) (some (zeros 512)), total := tot cur + 1 } ∧ Step isAct w T w' T' := by
  obtain ⟨hM2, hS2, et, hVq, hhd, _⟩ := Sees.allocNew hM hS ht
  have HM := Lib.hid hM2; have HG := Lib.hid hG; have HV := Lib.hid hpv; have HS := Lib.hid hS2; have HET := Lib.hid et
  clear hG hpv hS hM2 hS2 et hVq
  obtain ⟨q, hq⟩ : ∃ q, q = tot cur + 1 := ⟨_, rfl⟩
  have hqn : (num4 (cur 0) : Int) = (q : Int) - 1 := by unfold tot at hq; omega
  have hq4 : q < 4096 := by omega
  have hq1 : 1 ≤ q := by omega
  have hqw : Hid (wrap64 ((num4 (cur 0) : Int) + 1) = (q : Int)) := Lib.hid (by rw [hqn]; unfold wrap64; omega)
  rw [← hq] at HM HS HET ⊢
  have HQN := Lib.hid hqn; have HQ := Lib.hid hq
  clear hq ht hqn
  have hgo := act_going E.a E.s false w hA.c0 hA.c3
  have hp := act_page' E (Q := 0) 0 rfl cur gone pv w T hf hA (by omega) hN
  have hl0 : (cur 0).length = 512 := hM.len 0 (by omega)
  have HP := Lib.hid hp; have HL := Lib.hid hl0
  unfold headOf at hhd
  have HHD := Lib.hid hhd
  clear hp hA hl0 hhd
  go_enter Try.func11, Try.ntmps11
  go_wp2_with (go_at_call 42; refine hgo.mono ?_; rintro e w' ⟨rfl, rfl⟩)
  refine HP.out.mono ?_
  rintro e1 w1 ⟨g, cap, rfl, hB, T1, _, hA1, hS1⟩
  have hsb := hB.slb
  rw [HL.out] at hsb
  have HA1 := Lib.hid hA1; have HS1 := Lib.hid hS1; have HSB := Lib.hid hsb
  clear hA1 hS1 hB hsb HP hgo
  go_wp2_with (with_reducible refine hold_slice _ _ _ _ _ rfl ?_)
  unfold Hold
  refine wpList_cut_l rfl _ _ _ rfl _ und_bytes size_u8 rfl HSB.out rfl (by omega) (by rw [HL.out]; omega) ?_
  intro r hr _
  have e0 : (cur 0).drop (4 : Int).toNat = (cur 0).drop 4 := rfl
  rw [e0] at hr
  have hnum := fun wz hz => number_any r _ (by rw [List.length_drop, HL.out]; omega) wz (hz : SlB wz r ((cur 0).drop 4))
  rw [HHD.out] at hnum
  have HR := Lib.hid hr
  clear hr e0 HSB
  go_wp2_with (go_at_call 40; refine (hnum _ HR.out).mono ?_; rintro e w' ⟨rfl, kk, rfl⟩)
  have s1 : Step (fun _ => false) w1 T1 (w1.drewN kk) T1 := (Step.refl HS1.out.fresh).drewN kk
  have hp2 := act_total' E cur gone pv (w1.drewN kk) T1 s1.fresh (HA1.out.kept s1 (fun _ _ => rfl)) hN
  have HS2 := Lib.hid (HS1.out.trans (s1.mono (fun t ht => by cases ht)))
  have HP2 := Lib.hid hp2
  clear hp2 s1 HA1 HS1 HR hnum
  refine HP2.out.mono ?_
  rintro e3 w3 ⟨rfl, T3, hA3, hS3⟩
  have HA3 := Lib.hid hA3; have HS3 := Lib.hid (HS2.out.trans hS3)
  clear hA3 hS3 HS2 HP2
  rw [HQN.out]
  clear HHD hM HL
  have hlt : ¬ (4096 : Int) ≤ q := by omega
  have hdg := fun wz => digits_any q (by omega) wz
  go_wp2_with fail
  refine (hdg _).mono ?_
  rintro e4 w4 ⟨rfl, hbl⟩
  obtain ⟨sv, hsv, hsd, hss⟩ := str_split (be4 q)
  rw [hsv]
  have hss4 : sv.size = 4 := hss
  have s4 : Step (fun _ => false) w3 T3 w4 T3 := (Step.refl HS3.out.fresh).below hbl
  have hp4 := act_put E (Q := 0) (A := 0) 0 0 rfl rfl sv cur gone pv w4 T3 s4.fresh (HA3.out.kept s4 (fun _ _ => rfl)) (by omega) (by omega) hN
  rw [hsd] at hp4
  have HP4 := Lib.hid hp4; have HS4 := Lib.hid (HS3.out.trans (s4.mono (fun t ht => by cases ht)))
  clear hp4 hsv hsd hss hbl s4 hdg HA3 HS3
  go_wp2_with fail
  refine HP4.out.mono ?_
  rintro e5 w5 ⟨rfl, T5, pv5, hA5, hpv5, hS5⟩
  have k1 := hA5.c1
  have HA6 := Lib.hid hA5; have HS6 := Lib.hid (HS4.out.trans hS5); have HPV := Lib.hid hpv5
  clear hA5 hS5 hpv5 HS4 HP4
  obtain ⟨w6, hw6⟩ : ∃ w6, w6 = w5 := ⟨_, rfl⟩
  have HA6' : Hid (ActR E w6.drew _ _ _ pv5) := Lib.hid (by rw [hw6]; exact (HA6.out.kept ((Step.refl (C := fun _ => false) HS6.out.fresh).drew) (fun _ _ => rfl)))
  obtain ⟨o8, hup, T8, hA8, hS8⟩ := HA6'.out.blank (T := _) (by rw [hw6]; exact HS6.out.fresh) q (by omega)
  have s7' := (HS6.out.drew)
  rw [← hw6] at s7'
  have hup' : (Instr.mapUpdate 44 (.map (some E.pm)) (.int .i64 q) (.slice (some ⟨w6.heap.size, 0, none⟩) 512 512)).run Try.prog (w6.alloc zObj).drew = .ok () (putObj (w6.alloc zObj).drew E.pm o8) := hup
  rw [← hw6] at k1
  have hlt6 := World.block_lt_of_cell? w6 _ k1
  have ka : ∀ o : Obj, (w6.alloc o).cell? ⟨E.a, 1, none⟩ = some (.map (some E.pm)) := fun o => by
    have := alloc_old (w := w6) (o := o) hlt6
    simp only [World.cell?, this] at k1 ⊢
    exact k1
  have hmk : ∀ wx : World, (Instr.makeSlice 69 (.int .i64 512) (.int .i64 512)).run Try.prog wx = .ok (.slice (some ⟨wx.heap.size, 0, none⟩) 512 512) (wx.alloc zObj) := fun wx => make_page wx
  have HA8 : Hid (ActR E (putObj (w6.alloc zObj).drew E.pm o8) T8 _ _ _) := Lib.hid hA8
  have HS8 : Hid (Step isAct w T (putObj (w6.alloc zObj).drew E.pm o8) T8) := Lib.hid (s7'.trans hS8)
  clear hup hA8 hS8 s7' hlt6
  go_wp2
  rw [← hw6]
  clear hw6
  go_region
  go_wp2
  go_ret2
  refine ⟨rfl, T8, ⟨_, [], _, _, HA8.out, HM.out, HG.out, fun r hr => ?_, HS.out⟩, HS8.out⟩
  rw [HET.out]
  by_cases e : r = q
  · omega
  · rw [mupd_other _ _ (by omega)] at hr
    by_cases e0 : r = 0
    · omega
    · have := HV.out r (fun hn => hr ((HPV.out r).2 ⟨by omega, hn⟩))
      have := HQ.out
      omega

/-- Alloc. -/
theorem act_alloc (E : AEnv) (V : View) (w : World) (T : Tags) (hf : Fresh w T) (h : ActV E w T V) (hN : E.N < 1099511627770) :
    Calls Try.prog 11 #[ptr E.a] w fun e w' => ∃ T', Step isAct w T w' T' ∧
      ((∃ q : Nat, e = .returned (.tuple #[.int .i64 q, .int .i64 0]) ∧ V.pages q = none ∧ 1 ≤ q ∧ q < 4096 ∧ ActV E w' T' { V with pages := upd V.pages q (some (zeros 512)), total := max V.total q } ∧ (q ≤ V.total ∨ (q = V.total + 1 ∧ ∀ r, 1 ≤ r → r ≤ V.total → V.pages r ≠ none))) ∨
       (e = .returned (.tuple #[.int .i64 0, .int .i64 2]) ∧ ActV E w' T' V ∧ V.total = 4095 ∧ ∀ r, 1 ≤ r → r ≤ 4095 → V.pages r ≠ none)) := by
  obtain ⟨cur, fl, gone, pv, hA, hM, hG, hpv, hS⟩ := h
  have htt := hS.total
  have htl := hM.tle
  cases fl with
  | cons q fl =>
    obtain ⟨_, _, et, hVq, hhd, hq1, hq2⟩ := Sees.allocFree hM hS
    refine (act_alloc_free E q cur fl gone pv V w T hf hA hN hM hG hpv hS).mono ?_
    rintro e w' ⟨rfl, T', hA', hS'⟩
    have em : max V.total q = V.total := by omega
    exact ⟨T', hS', .inl ⟨q, rfl, hVq, hq1, by omega, by rw [em]; exact hA', .inl (by omega)⟩⟩
  | nil =>
    by_cases ht : tot cur + 1 < 4096
    · obtain ⟨_, _, et, hVq, hhd, hall⟩ := Sees.allocNew hM hS ht
      refine (act_alloc_new E cur gone pv V w T hf hA hN hM hG hpv hS ht).mono ?_
      rintro e w' ⟨rfl, T', hA', hS'⟩
      have em : max V.total (tot cur + 1) = tot cur + 1 := by omega
      refine ⟨T', hS', .inl ⟨tot cur + 1, rfl, hVq, by omega, ht, by rw [em]; exact hA', .inr ⟨by omega, fun r h1 h2 => hall r h1 (by omega)⟩⟩⟩
    · refine (act_alloc_full E cur gone pv V w T hf hA hN hM hG hpv hS (by omega)).mono ?_
      rintro e w' ⟨rfl, T', hA', hS'⟩
      refine ⟨T', hS', .inr ⟨rfl, hA', by omega, fun r h1 h2 => ?_⟩⟩
      rw [hS.pages, if_pos ⟨h1, by omega, by simp⟩]; simp

set_option maxRecDepth 100000 in
set_option maxHeartbeats 800000 in
theorem act_free (E : AEnv) {n : Int} (q : Nat) (hn : n = q) (b : Bs) (V : View) (w : World) (T : Tags) (hf : Fresh w T) (h : ActV E w T V) (hN : E.N < 1099511627770) (hV : V.pages q = some b) :
    Calls Try.prog 12 #[ptr E.a, .int .i64 n] w fun e w' => e = .returned (.int .i64 0) ∧ ∃ T', ActV E w' T' { V with pages := upd V.pages q none } ∧ Step isAct w T w' T' := by
  subst hn
  obtain ⟨cur, fl, gone, pv, hA, hM, hG, hpv, hS⟩ := h
  obtain ⟨q1, q2, q3, q4⟩ := hS.yes hV
  have hq : q < 4096 := by have := hM.tle; omega
  have ht := there_yes hf hA hN hG q1 q2 q3
  obtain ⟨hM2, hS2, et⟩ := Sees.free hM hS q1 q2 q3 _ _ rfl rfl
  have hadd := hG.add q
  have hl0 : (cur 0).length = 512 := hM.len 0 (by omega)
  have HT := Lib.hid ht; have HM := Lib.hid hM2; have HG := Lib.hid hadd; have HV := Lib.hid hpv; have HS := Lib.hid hS2; have HET := Lib.hid et; have HL := Lib.hid hl0
  clear ht hM hG hpv hS hA hM2 hS2 et hl0 hadd q4 hV q3
  go_enter Try.func12, Try.ntmps12
  go_wp2_with fail
  refine HT.out.mono ?_
  rintro e1 w1 ⟨rfl, T1, hA1, hS1⟩
  have k1 := hA1.c1
  have HA1 := Lib.hid hA1; have HS1 := Lib.hid hS1
  clear hA1 hS1 HT
  obtain ⟨w6, hw6⟩ : ∃ w6, w6 = w1 := ⟨_, rfl⟩
  have HA6' : Hid (ActR E w6.drew _ _ _ pv) := Lib.hid (by rw [hw6]; exact (HA1.out.kept ((Step.refl (C := fun _ => false) HS1.out.fresh).drew) (fun _ _ => rfl)))
  obtain ⟨o8, hup, T8, hA8, hS8⟩ := HA6'.out.blank (T := _) (by rw [hw6]; exact HS1.out.fresh) q (by omega)
  have s7' := (HS1.out.drew)
  rw [← hw6] at s7'
  have hup' : (Instr.mapUpdate 44 (.map (some E.pm)) (.int .i64 q) (.slice (some ⟨w6.heap.size, 0, none⟩) 512 512)).run Try.prog (w6.alloc zObj).drew = .ok () (putObj (w6.alloc zObj).drew E.pm o8) := hup
  rw [← hw6] at k1
  have hlt6 := World.block_lt_of_cell? w6 _ k1
  have ka : ∀ o : Obj, (w6.alloc o).cell? ⟨E.a, 1, none⟩ = some (.map (some E.pm)) := fun o => by
    have := alloc_old (w := w6) (o := o) hlt6
    simp only [World.cell?, this] at k1 ⊢
    exact k1
  have hmk : ∀ wx : World, (Instr.makeSlice 69 (.int .i64 512) (.int .i64 512)).run Try.prog wx = .ok (.slice (some ⟨wx.heap.size, 0, none⟩) 512 512) (wx.alloc zObj) := fun wx => make_page wx
  have HA8 : Hid (ActR E (putObj (w6.alloc zObj).drew E.pm o8) T8 _ _ _) := Lib.hid hA8
  have HS8 : Hid (Step isAct w T (putObj (w6.alloc zObj).drew E.pm o8) T8) := Lib.hid (s7'.trans hS8)
  clear hup hA8 hS8 s7' hlt6
  go_wp2
  rw [← hw6]
  clear hw6
  go_region
  have hp9 := act_page' E (Q := 0) 0 rfl _ _ _ _ T8 HS8.out.fresh HA8.out (by omega) hN
  rw [upd_other _ _ (by omega : (0 : Nat) ≠ q)] at hp9
  have HP9 := Lib.hid hp9
  clear hp9
  go_wp2_with fail
  refine HP9.out.mono ?_
  rintro e9 w9 ⟨g, cap, rfl, hB, T9, _, hA9, hS9⟩
  have hsb := hB.slb
  rw [HL.out] at hsb
  have HA9 := Lib.hid hA9; have HS9 := Lib.hid (HS8.out.trans hS9); have HSB := Lib.hid hsb
  clear hA9 hS9 hB hsb HP9 HA8 HS8 hup' ka hmk k1 HA6'
  go_wp2_with (with_reducible refine hold_slice _ _ _ _ _ rfl ?_)
  unfold Hold
  refine wpList_cut_lh rfl _ _ _ _ rfl _ und_bytes size_u8 rfl HSB.out rfl rfl (by omega) (by omega) (by rw [HL.out]; omega) ?_
  intro r hr _
  have e0 : ((cur 0).drop (4 : Int).toNat).take ((8 : Int).toNat - (4 : Int).toNat) = ((cur 0).drop 4).take 4 := rfl
  rw [e0] at hr
  have HR := Lib.hid hr
  clear hr e0 HSB
  go_wp2_with (with_reducible refine hold_convert 69 9 _ rfl ?_)
  unfold Hold
  refine wpList_string rfl _ _ _ rfl _ und_bytes und_u8 und_string rfl HR.out ?_
  obtain ⟨sv, hsv, hsd, hss⟩ := str_split (((cur 0).drop 4).take 4)
  rw [hsv]
  have hss4 : sv.size = 4 := by rw [hss, List.length_take, List.length_drop, HL.out]; rfl
  have hp10 := act_put E (A := 0) q 0 rfl rfl sv _ _ _ w9 T9 HS9.out.fresh HA9.out (by omega) (by omega) hN
  rw [hsd, upd_upd, upd_same] at hp10
  have HP10 := Lib.hid hp10
  clear hp10 hsv hsd hss HR
  go_wp2_with fail
  refine HP10.out.mono ?_
  rintro e10 w10 ⟨rfl, T10, pv10, hA10, hpv10, hS10⟩
  have HA10 := Lib.hid hA10; have HS10 := Lib.hid (HS9.out.trans hS10); have HPV10 := Lib.hid hpv10
  clear hA10 hS10 hpv10 HP10 HA9 HS9
  have hdg := digits_any q (by omega) w10
  go_wp2_with fail
  refine hdg.mono ?_
  rintro e11 w11 ⟨rfl, hbl⟩
  obtain ⟨sv, hsv, hsd, hss⟩ := str_split (be4 q)
  rw [hsv]
  have hss4 : sv.size = 4 := hss
  have s4 : Step (fun _ => false) w10 T10 w11 T10 := (Step.refl HS10.out.fresh).below hbl
  have hp12 := act_put E (Q := 0) (A := 4) 0 4 rfl rfl sv _ _ _ w11 T10 s4.fresh (HA10.out.kept s4 (fun _ _ => rfl)) (by omega) (by omega) hN
  rw [hsd, upd_other _ _ (by omega : (0 : Nat) ≠ q)] at hp12
  have HP12 := Lib.hid hp12; have HS11 := Lib.hid (HS10.out.trans (s4.mono (fun t ht => by cases ht)))
  clear hp12 hsv hsd hss hbl s4 hdg HA10 HS10
  go_wp2_with fail
  refine HP12.out.mono ?_
  rintro e13 w13 ⟨rfl, T13, pv13, hA13, hpv13, hS13⟩
  obtain ⟨o, hgp, hA14, hS14⟩ := hA13.gonePut hS13.fresh (q : Int)
  have k2 := hA13.c2
  have HA14 := Lib.hid hA14; have HS14 := Lib.hid ((HS11.out.trans hS13).trans hS14); have HPV13 := Lib.hid hpv13
  clear hA13 hA14 hS13 hS14 hpv13 HS11 HP12
  go_wp2
  go_ret
  refine ⟨rfl, T13, ⟨_, q :: fl, _, _, HA14.out, HM.out, HG.out, fun r hr => ?_, HS.out⟩, HS14.out⟩
  rw [HET.out]
  by_cases e : r = q
  · omega
  · by_cases e0 : r = 0
    · omega
    · refine HV.out r (fun hn => hr ((HPV13.out r).2 ⟨by omega, (HPV10.out r).2 ⟨by omega, ?_⟩⟩))
      rw [mupd_other _ _ (by omega)]
      exact hn

end Go.Proofs.Ytiolpfneppchnaa
