/- The space (layer 5): Read, Write, Root, SetRoot. -/
import Derived.Test.YtiolpfneppchnaaVsSp4
namespace Go.Proofs.Ytiolpfneppchnaa
open Go Go.RowKit Go.Vs

section
variable {E : AEnv} {w : World} {T : Tags} {cur : Nat → Bs} {gone : Int → Bool} {pv : Int → Option (Nat × Nat)} {fl : List Nat} {V : View}

theorem there_yes (hf : Fresh w T) (h : ActR E w T cur gone pv) (hN : E.N < 1099511627770) (hg : GoneIs gone fl) {q : Nat} (h1 : 1 ≤ q) (h2 : q ≤ tot cur) (h3 : q ∉ fl) :
    Calls Try.prog 47 #[ptr E.a, .int .i64 q] w fun e w' => e = .returned (.int .i64 0) ∧ ∃ T', ActR E w' T' cur gone pv ∧ Step isAct w T w' T' := by
  have hgn : gone q = false := by
    cases e : gone q with
    | false => rfl
    | true =>
      obtain ⟨r, hr, e'⟩ := (hg q).1 e
      have : r = q := by omega
      subst this; exact absurd hr h3
  have := act_there E q cur gone pv w T hf h hN
  unfold tot at h2
  rw [if_pos ⟨by omega, by omega, hgn⟩] at this
  exact this

theorem there_no (hf : Fresh w T) (h : ActR E w T cur gone pv) (hN : E.N < 1099511627770) (hg : GoneIs gone fl) {n : Int} (h1 : ∀ q : Nat, n = q → ¬ (1 ≤ q ∧ q ≤ tot cur ∧ q ∉ fl)) :
    Calls Try.prog 47 #[ptr E.a, .int .i64 n] w fun e w' => e = .returned (.int .i64 3) ∧ ∃ T', ActR E w' T' cur gone pv ∧ Step isAct w T w' T' := by
  have := act_there E n cur gone pv w T hf h hN
  rw [if_neg] at this
  · exact this
  · rintro ⟨a, b, c⟩
    have hq := h1 n.toNat (by omega)
    apply hq
    refine ⟨by omega, by unfold tot; omega, fun hm => ?_⟩
    have := (hg n).2 ⟨n.toNat, hm, by omega⟩
    rw [c] at this; cases this

end

theorem str_split (b : Bs) : ∃ sv : ByteArray, str b = .string sv ∧ sv.data.toList = b ∧ sv.size = b.length :=
  ⟨⟨b.toArray⟩, rfl, by simp, str_size b⟩

set_option maxRecDepth 100000 in
theorem act_read_yes (E : AEnv) {n : Int} (q : Nat) (hn : n = q) (b : Bs) (V : View) (w : World) (T : Tags) (hf : Fresh w T) (h : ActV E w T V) (hN : E.N < 1099511627770) (hV : V.pages q = some b) :
    Calls Try.prog 16 #[ptr E.a, .int .i64 n] w fun e w' => e = .returned (.tuple #[str b, .int .i64 0]) ∧ b.length = 512 ∧ ∃ T', ActV E w' T' V ∧ Step isAct w T w' T' := by
  subst hn
  obtain ⟨cur, fl, gone, pv, hA, hM, hG, hpv, hS⟩ := h
  obtain ⟨q1, q2, q3, q4⟩ := hS.yes hV
  have hq : q < 4096 := by have := hM.tle; omega
  have hlb : b.length = 512 := by rw [← q4]; exact hM.len q hq
  have ht := there_yes hf hA hN hG q1 q2 q3
  have HT := Lib.hid ht; have HM := Lib.hid hM; have HG := Lib.hid hG; have HV := Lib.hid hpv; have HS := Lib.hid hS; have HL := Lib.hid hlb
  clear ht hM hG hpv hS hA
  go_enter Try.func16, Try.ntmps16
  go_wp2_with fail
  refine HT.out.mono ?_
  rintro e1 w1 ⟨rfl, T1, hA1, hS1⟩
  have hp := act_page' E q rfl cur gone pv w1 T1 hS1.fresh hA1 hq hN
  have HP := Lib.hid hp; have HS1 := Lib.hid hS1
  clear hp hS1 hA1
  go_wp2_with fail
  refine HP.out.mono ?_
  rintro e2 w2 ⟨g, cap, rfl, hB, T2, _, hA2, hS2⟩
  rw [q4] at hB
  have hsb := hB.slb
  rw [hlb] at hsb
  have HA2 := Lib.hid hA2; have HS2 := Lib.hid hS2; have HSB := Lib.hid hsb
  clear hA2 hS2 hB hsb q4 hlb hV q3
  go_wp2_with (with_reducible refine hold_convert 69 9 _ rfl ?_)
  unfold Hold
  refine wpList_string rfl _ _ _ rfl _ und_bytes und_u8 und_string rfl HSB.out ?_
  obtain ⟨sv, hsv, _⟩ := str_split b
  rw [hsv]
  have HQ := Lib.hid hsv
  clear hsv
  go_wp2
  go_ret2
  exact ⟨by rw [HQ.out]; rfl, HL.out, T2, ⟨cur, fl, gone, pv, HA2.out, HM.out, HG.out, HV.out, HS.out⟩, HS1.out.trans HS2.out⟩

theorem act_read_no (E : AEnv) (n : Int) (V : View) (w : World) (T : Tags) (hf : Fresh w T) (h : ActV E w T V) (hN : E.N < 1099511627770) (hV : ∀ q : Nat, n = q → V.pages q = none) :
    Calls Try.prog 16 #[ptr E.a, .int .i64 n] w fun e w' => e = .returned (.tuple #[.string ⟨#[]⟩, .int .i64 3]) ∧ ∃ T', ActV E w' T' V ∧ Step isAct w T w' T' := by
  obtain ⟨cur, fl, gone, pv, hA, hM, hG, hpv, hS⟩ := h
  have ht := there_no hf hA hN hG (fun q hq => hS.no (hV q hq))
  have HT := Lib.hid ht; have HM := Lib.hid hM; have HG := Lib.hid hG; have HV := Lib.hid hpv; have HS := Lib.hid hS
  clear ht hM hG hpv hS hA hV
  go_enter Try.func16, Try.ntmps16
  go_wp2_with fail
  refine HT.out.mono ?_
  rintro e1 w1 ⟨rfl, T1, hA1, hS1⟩
  have HA1 := Lib.hid hA1; have HS1 := Lib.hid hS1
  clear hA1 hS1
  go_wp2
  go_ret2
  exact ⟨rfl, T1, ⟨cur, fl, gone, pv, HA1.out, HM.out, HG.out, HV.out, HS.out⟩, HS1.out⟩

set_option maxRecDepth 100000 in
theorem act_write (E : AEnv) {n A : Int} (q at' : Nat) (hn : n = q) (hA' : A = at') (s : ByteArray) (b : Bs) (V : View) (w : World) (T : Tags) (hf : Fresh w T) (h : ActV E w T V) (hN : E.N < 1099511627770) (hV : V.pages q = some b) (hs : at' + s.size ≤ 512) :
    Calls Try.prog 18 #[ptr E.a, .int .i64 n, .int .i64 A, .string s] w fun e w' => e = .returned (.int .i64 0) ∧ b.length = 512 ∧ ∃ T', ActV E w' T' { V with pages := upd V.pages q (some (lay b at' s.data.toList)) } ∧ Step isAct w T w' T' := by
  subst hn; subst hA'
  obtain ⟨cur, fl, gone, pv, hA, hM, hG, hpv, hS⟩ := h
  obtain ⟨q1, q2, q3, q4⟩ := hS.yes hV
  have hq : q < 4096 := by have := hM.tle; omega
  have hlb : b.length = 512 := by rw [← q4]; exact hM.len q hq
  have ht := there_yes hf hA hN hG q1 q2 q3
  have hll : (lay b at' s.data.toList).length = 512 := by
    have : s.data.toList.length = s.size := rfl
    rw [lay_length _ _ _ (by omega)]; exact hlb
  have hM2 := hM.page (lay b at' s.data.toList) hll (by omega : q ≠ 0) q3
  have hS2 := hS.write (lay b at' s.data.toList) q1 q2 q3
  have et : tot (upd cur q (lay b at' s.data.toList)) = tot cur := by unfold tot; rw [upd_other _ _ (by omega)]
  have HT := Lib.hid ht; have HM := Lib.hid hM2; have HG := Lib.hid hG; have HV := Lib.hid hpv; have HS := Lib.hid hS2; have HL := Lib.hid hlb; have HET := Lib.hid et; have HQ4 := Lib.hid q4
  have a1 : ¬ (at' : Int) < 0 := by omega
  have a2 : ¬ (512 : Int) < at' := by omega
  have a3 : ¬ (512 : Int) - at' < s.size := by omega
  clear ht hM hG hpv hS hA hM2 hS2 et hll hlb q4 hV q3
  go_enter Try.func18, Try.ntmps18
  go_wp2_with fail
  refine HT.out.mono ?_
  rintro e1 w1 ⟨rfl, T1, hA1, hS1⟩
  have hp := act_put E q at' rfl rfl s cur gone pv w1 T1 hS1.fresh hA1 hq hs hN
  have HP := Lib.hid hp; have HS1 := Lib.hid hS1
  clear hp hS1 hA1
  go_wp2_with fail
  refine HP.out.mono ?_
  rintro e2 w2 ⟨rfl, T2, pv2, hA2, hpv2, hS2⟩
  rw [HQ4.out] at hA2
  have HA2 := Lib.hid hA2; have HS2 := Lib.hid hS2; have HV2 := Lib.hid hpv2
  clear hA2 hS2 hpv2
  go_wp2
  go_ret
  refine ⟨rfl, HL.out, T2, ⟨_, fl, gone, pv2, HA2.out, HM.out, HG.out, fun r hr => ?_, HS.out⟩, HS1.out.trans HS2.out⟩
  rw [HET.out]
  by_cases e : r = q
  · omega
  · exact HV.out r (fun hn => hr ((HV2.out r).2 ⟨by omega, hn⟩))

set_option maxRecDepth 100000 in
theorem act_root (E : AEnv) {n : Int} (k : Nat) (hn : n = k) (hk : k < 16) (V : View) (w : World) (T : Tags) (hf : Fresh w T) (h : ActV E w T V) (hN : E.N < 1099511627770) :
    Calls Try.prog 17 #[ptr E.a, .int .i64 n] w fun e w' => e = .returned (.tuple #[.int .i64 (V.roots k), .int .i64 0]) ∧ ∃ T', ActV E w' T' V ∧ Step isAct w T w' T' := by
  subst hn
  obtain ⟨cur, fl, gone, pv, hA, hM, hG, hpv, hS⟩ := h
  have hgo := act_going E.a E.s false w hA.c0 hA.c3
  have hp := act_page' E (Q := 0) 0 rfl cur gone pv w T hf hA (by omega) hN
  have hlb : (cur 0).length = 512 := hM.len 0 (by omega)
  have HP := Lib.hid hp; have HM := Lib.hid hM; have HG := Lib.hid hG; have HV := Lib.hid hpv; have HS := Lib.hid hS; have HL := Lib.hid hlb
  have k1 : ¬ (k : Int) < 0 := by omega
  have k2 : ¬ (16 : Int) ≤ k := by omega
  clear hp hM hG hpv hS hA hlb
  go_enter Try.func17, Try.ntmps17
  go_wp2_with (go_at_call 42; refine hgo.mono ?_; rintro e w' ⟨rfl, rfl⟩)
  refine HP.out.mono ?_
  rintro e2 w2 ⟨g, cap, rfl, hB, T2, _, hA2, hS2⟩
  have hsb := hB.slb
  rw [HL.out] at hsb
  have HA2 := Lib.hid hA2; have HS2 := Lib.hid hS2; have HSB := Lib.hid hsb
  clear hA2 hS2 hB hsb
  go_wp2_with (with_reducible refine hold_slice _ _ _ _ _ rfl ?_)
  unfold Hold
  refine wpList_cut_l rfl _ _ _ rfl _ und_bytes size_u8 rfl HSB.out rfl (by omega) (by rw [HL.out]; omega) ?_
  intro r hr _
  have e0 : (cur 0).drop (8 + 4 * (k : Int)).toNat = (cur 0).drop (8 + 4 * k) := by congr 1
  rw [e0] at hr
  have HR := Lib.hid hr
  clear hr e0
  go_wp2_with (go_at_call 40; refine (number_any _ _ (by rw [List.length_drop, HL.out]; omega) _ HR.out).mono ?_; rintro e w' ⟨rfl, kk, rfl⟩)
  go_ret2
  have s1 : Step (fun _ => false) w2 T2 (w2.drewN kk) T2 := (Step.refl HS2.out.fresh).drewN kk
  refine ⟨?_, T2, ⟨cur, fl, gone, pv, HA2.out.kept s1 (fun _ _ => rfl), HM.out, HG.out, HV.out, HS.out⟩, HS2.out.trans (s1.mono (fun t ht => by cases ht))⟩
  rw [HS.out.roots k hk]
  rfl

theorem act_root_bad (E : AEnv) (n : Int) (hk : n < 0 ∨ 16 ≤ n) (V : View) (w : World) (T : Tags) (h : ActV E w T V) :
    Calls Try.prog 17 #[ptr E.a, .int .i64 n] w fun e w' => e = .returned (.tuple #[.int .i64 0, .int .i64 1]) ∧ w = w' := by
  obtain ⟨cur, fl, gone, pv, hA, hM, hG, hpv, hS⟩ := h
  have hgo := act_going E.a E.s false w hA.c0 hA.c3
  clear hM hG hpv hS hA
  rcases hk with h1 | h1
  · go_enter Try.func17, Try.ntmps17
    go_wp2_with (go_at_call 42; refine hgo.mono ?_; rintro e w' ⟨rfl, rfl⟩)
    go_ret2
    exact ⟨rfl, rfl⟩
  · have h2 : ¬ n < 0 := by omega
    go_enter Try.func17, Try.ntmps17
    go_wp2_with (go_at_call 42; refine hgo.mono ?_; rintro e w' ⟨rfl, rfl⟩)
    go_ret2
    exact ⟨rfl, rfl⟩

set_option maxRecDepth 100000 in
theorem act_setRoot (E : AEnv) {n M : Int} (k v : Nat) (hn : n = k) (hM' : M = v) (hk : k < 16) (hv : v ≤ 2147483647) (V : View) (w : World) (T : Tags) (hf : Fresh w T) (h : ActV E w T V) (hN : E.N < 1099511627770) :
    Calls Try.prog 19 #[ptr E.a, .int .i64 n, .int .i64 M] w fun e w' => e = .returned (.int .i64 0) ∧ ∃ T', ActV E w' T' { V with roots := upd V.roots k v } ∧ Step isAct w T w' T' := by
  subst hn; subst hM'
  obtain ⟨cur, fl, gone, pv, hA, hM, hG, hpv, hS⟩ := h
  have hgo := act_going E.a E.s false w hA.c0 hA.c3
  obtain ⟨hM2, hS2, et⟩ := Sees.setRoot hM hS k v hk (by omega)
  have HA := Lib.hid hA; have HM := Lib.hid hM2; have HG := Lib.hid hG; have HV := Lib.hid hpv; have HS := Lib.hid hS2; have HET := Lib.hid et
  have k1 : ¬ (k : Int) < 0 := by omega
  have k2 : ¬ (16 : Int) ≤ k := by omega
  have k3 : ¬ (v : Int) < 0 := by omega
  have k4 : ¬ (2147483647 : Int) < v := by omega
  clear hM hG hpv hS hA hM2 hS2 et
  have hdg := digits_any v (by omega) w
  go_enter Try.func19, Try.ntmps19
  go_wp2_with (go_at_call 42; refine hgo.mono ?_; rintro e w' ⟨rfl, rfl⟩)
  refine hdg.mono ?_
  rintro e1 w1 ⟨rfl, hbl⟩
  obtain ⟨sv, hsv, hsd, hss⟩ := str_split (be4 v)
  rw [hsv]
  have s1 : Step (fun _ => false) w T w1 T := (Step.refl hf).below hbl
  have hss : sv.size = 4 := hss
  have hp := act_put E (Q := 0) (A := 8 + 4 * k) 0 (8 + 4 * k) rfl (by omega) sv cur gone pv w1 T s1.fresh (HA.out.kept s1 (fun _ _ => rfl)) (by omega) (by omega) hN
  rw [hsd] at hp
  have HP := Lib.hid hp; have HS1 := Lib.hid s1
  clear hp s1 hsv hsd hbl hdg
  go_wp2_with fail
  refine HP.out.mono ?_
  rintro e2 w2 ⟨rfl, T2, pv2, hA2, hpv2, hS2⟩
  have HA2 := Lib.hid hA2; have HS2 := Lib.hid hS2; have HV2 := Lib.hid hpv2
  clear hA2 hS2 hpv2
  go_wp2
  go_ret
  refine ⟨rfl, T2, ⟨_, fl, gone, pv2, HA2.out, HM.out, HG.out, fun r hr => ?_, HS.out⟩, (HS1.out.mono (fun t ht => by cases ht)).trans HS2.out⟩
  rw [HET.out]
  by_cases e : r = 0
  · omega
  · exact HV.out r (fun hn => hr ((HV2.out r).2 ⟨by omega, hn⟩))

end Go.Proofs.Ytiolpfneppchnaa
