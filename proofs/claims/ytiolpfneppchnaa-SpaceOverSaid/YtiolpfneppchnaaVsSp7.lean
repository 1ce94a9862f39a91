/- The space (layer 5): apply. -/
import Derived.Test.YtiolpfneppchnaaVsSp6
namespace Go.Proofs.Ytiolpfneppchnaa
open Go Go.RowKit Go.Vs

theorem extract_list (s : ByteArray) (a b : Nat) : (s.extract a b).data.toList = (s.data.toList.drop a).take (b - a) := by
  rw [ByteArray.data_extract, Array.toList_extract]

/-- pages of the disk were written as the pool has them, but for those that entries are of. -/
def WroteBut (es : List Ent) (f f' : Nat → Bs) (base : Nat → Bs) : Prop := f' 0 = f 0 ∧ ∀ q, q < 4096 → (∀ x ∈ es, x.1 ≠ q) → pg (f' 1) q = pg (f 1) q ∨ pg (f' 1) q = base q

theorem layE_other : ∀ (es : List Ent) (g : Nat → Bs) (q : Nat), (∀ x ∈ es, x.1 ≠ q) → layE es g q = g q
  | [], _, _, _ => rfl
  | x :: es, g, q, h => by
    rw [layE_cons, layE_other es _ q (fun y hy => h y (by simp [hy])), upd_other _ _ (Ne.symm (h x (by simp)))]

theorem layE_congr : ∀ (es : List Ent) {g h : Nat → Bs} {q : Nat}, g q = h q → layE es g q = layE es h q
  | [], _, _, _, e => e
  | x :: es, g, h, q, e => by
    rw [layE_cons, layE_cons]
    refine layE_congr es ?_
    by_cases eq : q = x.1
    · subst eq; rw [upd_same, upd_same]
    · rw [upd_other _ _ eq, upd_other _ _ eq]; exact e

theorem layE_some : ∀ (es : List Ent) (g h : Nat → Bs) (q : Nat), (∃ x ∈ es, x.1 = q) → layE es g q = layE es h q
  | [], _, _, _, h => by obtain ⟨x, hx, _⟩ := h; cases hx
  | x :: es, g, h, q, hx => by
    rw [layE_cons, layE_cons]
    by_cases eq : ∃ y ∈ es, y.1 = q
    · exact layE_some es _ _ q eq
    · obtain ⟨y, hy, e⟩ := hx
      rcases List.mem_cons.1 hy with rfl | hy
      · refine layE_congr es ?_
        rw [← e, upd_same, upd_same]
      · exact absurd ⟨y, hy, e⟩ eq

theorem WroteBut.refl (f base) : WroteBut [] f f base := ⟨rfl, fun _ _ _ => .inl rfl⟩

theorem WroteBut.snoc {es : List Ent} {x : Ent} {f g h : Nat → Bs} {base : Nat → Bs} (h1 : WroteBut es f g base) (h2 : Wrote g h (layE es base)) : WroteBut (es ++ [x]) f h base :=
  ⟨h2.1.trans h1.1, fun q hq hn => by
    have hn' : ∀ y ∈ es, y.1 ≠ q := fun y hy => hn y (by simp [hy])
    rcases h2.2 q hq with e | e
    · rw [e]; exact h1.2 q hq hn'
    · right; rw [e, layE_other _ _ _ hn']⟩

theorem encE_cons (x : Ent) (es : List Ent) : encE (x :: es) = be4 x.1 ++ (x.2 ++ encE es) := by simp [encE]

set_option maxRecDepth 100000 in
set_option maxHeartbeats 800000 in
theorem space_apply (s p d : Nat) (es : List Ent) (sv : ByteArray) (hsv : sv.data.toList = encE es) (hes : ∀ x ∈ es, x.1 < 4096 ∧ x.2.length = 512) (hsz : sv.size ≤ 4194304) (base : Nat → Bs) (w : World) (T : Tags) (f : Nat → Bs) (N : Nat) (hf : Fresh w T) (hT : T s = .space) (c1 : w.cell? ⟨s, 1, none⟩ = some (ptr p)) (hp : PoolR w T p d base f N) (hN : N + es.length < 1099511627770) :
    Calls Try.prog 38 #[ptr s, .string sv] w fun e w' => e = .returned (.tuple #[]) ∧ ∃ T', (∃ f', PoolR w' T' p d (layE es base) f' (N + es.length) ∧ WroteBut es f f' base) ∧ Step isPool w T w' T' := by
  have hsl := World.block_lt_of_cell? w _ c1
  have HP := Lib.hid hp; have HSV := Lib.hid hsv; have HES := Lib.hid hes
  have hcell : Hid (∀ {w' : World} {T' : Tags}, Step isPool w T w' T' → w'.cell? ⟨s, 1, none⟩ = some (ptr p)) := Lib.hid (by
    intro h
    have e := h.same s hsl (by rw [hT]; rfl)
    simp only [World.cell?, e] at c1 ⊢
    exact c1)
  clear hp hsv hes c1
  go_enter Try.func38, Try.ntmps38
  go_wp2_with fail
  go_loopw [1, 4] (fun u1 _ wr => ∃ es1 es2 s1 T1 f1, Hid (es = es1 ++ es2) ∧ u1 = .string s1 ∧ Hid (s1.data.toList = encE es2) ∧ Hid (s1.size ≤ 4194304) ∧ Hid (PoolR wr T1 p d (layE es1 base) f1 (N + es1.length)) ∧ Hid (WroteBut es1 f f1 base) ∧ Hid (Step isPool w T wr T1)) (fun u1 _ _ => match u1 with | .string s => s.size | _ => 0)
  case atStart => exact ⟨[], es, sv, T, f, Lib.hid rfl, rfl, HSV, Lib.hid hsz, HP, Lib.hid (WroteBut.refl _ _), Lib.hid (Step.refl hf)⟩
  case round =>
    obtain ⟨es1, es2, s1, T1, f1, HE, rfl, H1, HZ, HPR, HW, HS⟩ := hrel
    cases es2 with
    | nil =>
      have hz : s1.size = 0 := by
        have h := H1.out
        show s1.data.toList.length = 0
        rw [h]; rfl
      have hz' : ¬ (516 : Int) ≤ s1.size := by omega
      have hes : es = es1 := by have := HE.out; simpa using this
      have HQ := Lib.hid hes
      clear hz hes
      go_wp2_with fail
      go_end0
      refine ⟨rfl, T1, ⟨f1, ?_⟩, HS.out⟩
      rw [HQ.out]
      exact ⟨HPR.out, HW.out⟩
    | cons x rest =>
      obtain ⟨q, bs⟩ := x
      obtain ⟨hx1, hx2⟩ := HES.out (q, bs) (by rw [HE.out]; simp)
      replace hx1 : q < 4096 := hx1
      replace hx2 : bs.length = 512 := hx2
      have hd1 : s1.data.toList = be4 q ++ (bs ++ encE rest) := by rw [H1.out, encE_cons]
      have hb4 := be4_length q
      have hz : s1.size = 516 + (encE rest).length := by
        show s1.data.toList.length = _
        rw [hd1, List.length_append, List.length_append, hb4, hx2]; omega
      have e4 : (s1.extract 0 4).data.toList = be4 q := by
        rw [extract_list, hd1, List.drop_zero, Nat.sub_zero, List.take_left' hb4]
      have e5 : (s1.extract 4 516).data.toList = bs := by
        rw [extract_list, hd1, List.drop_left' hb4, List.take_left' (by rw [hx2])]
      have e6 : (s1.extract 516 s1.size).data.toList = encE rest := by
        rw [extract_list, hd1, ← List.append_assoc, List.drop_left' (by rw [List.length_append, hb4, hx2]), List.take_of_length_le (by omega)]
      have hz1 : (516 : Int) ≤ s1.size := by omega
      have hz2 : 516 ≤ s1.size := by omega
      have hz3 : 4 ≤ s1.size := by omega
      obtain ⟨s4, hs4⟩ : ∃ s4, s4 = s1.extract 0 4 := ⟨_, rfl⟩
      obtain ⟨s5, hs5⟩ : ∃ s5, s5 = s1.extract 4 516 := ⟨_, rfl⟩
      obtain ⟨s6, hs6⟩ : ∃ s6, s6 = s1.extract 516 s1.size := ⟨_, rfl⟩
      have k1 := hcell.out HS.out
      have HX2 := Lib.hid hx2; have E4 := Lib.hid e4; have E5 := Lib.hid e5; have E6 := Lib.hid e6; have HSZ := Lib.hid hz; have S4 := Lib.hid hs4; have S5 := Lib.hid hs5; have S6 := Lib.hid hs6
      clear hd1 hb4 hx2 e4 e5 e6 hz hs4 hs5 hs6
      go_wp2_with (with_reducible refine hold_convert 9 69 _ rfl ?_)
      unfold Hold
      rw [← S4.out]
      have z4 : s4.size = 4 := by
        show s4.data.toList.length = 4
        rw [S4.out, E4.out]; rfl
      refine wpList_bytes rfl _ _ _ rfl _ und_string und_bytes und_u8 rfl (by rw [z4]; unfold maxLen; omega) ?_
      intro cap w2 hB hg2 hz2'
      have hd4 : s4.data.toList = be4 q := by rw [S4.out]; exact E4.out
      rw [hd4] at hB
      rw [z4]
      have s2 : Step (fun _ => false) wr T1 w2 T1 := (Step.refl HS.out.fresh).below ((Below.refl _ _).grown hg2 (Nat.le_refl _) (by simp))
      have hnum := number_any _ _ (by rw [be4_length]; omega) w2 hB.slb
      rw [be4_length, num4_be4 q (by omega)] at hnum
      have HP2 := Lib.hid (HPR.out.kept s2 (fun _ _ => rfl)); have HS2 := Lib.hid (HS.out.trans (s2.mono (fun t ht => by cases ht)))
      clear hB hg2 hz2' s2 hd4 z4 k1
      have k1 := hcell.out HS2.out
      go_wp2_with (go_at_call 40; refine hnum.mono ?_; rintro e w' ⟨rfl, kk, rfl⟩)
      generalize hW3 : w2.drewN kk = w3
      have HP3 : Hid (PoolR w3 T1 p d (layE es1 base) f1 (N + es1.length)) := by rw [← hW3]; exact Lib.hid (HP2.out.kept ((Step.refl (C := fun _ => false) HS2.out.fresh).drewN kk) (fun _ _ => rfl))
      have HS3 : Hid (Step isPool w T w3 T1) := by rw [← hW3]; exact Lib.hid (HS2.out.drewN kk)
      clear hW3 hnum HP2 HS2 k1
      have k1 := hcell.out HS3.out
      have hlen : es1.length + 1 ≤ es.length := by rw [HE.out]; simp
      have hpin := pool_pin p d q (layE es1 base) w3 T1 f1 (N + es1.length) HS3.out.fresh HP3.out hx1 (by omega)
      have HPIN := Lib.hid hpin
      clear hpin
      refine HPIN.out.mono ?_
      rintro e4 w4 ⟨rfl, T4, f4, hP4, hW4, hS4⟩
      have HP4 := Lib.hid hP4; have HW4 := Lib.hid hW4; have HS4 := Lib.hid (HS3.out.trans hS4)
      clear hP4 hW4 hS4 HPIN HP3 HS3 k1
      have k1 := hcell.out HS4.out
      go_wp2_with fail
      go_still_tail 7, (by kernel_rfl)
      change wpList _ _ _ _ _ (World.drew _)
      generalize hW5 : w4.drew = w5
      have HP5 : Hid (PoolP w5 T4 p d (layE es1 base) f4 (N + es1.length) q) := by rw [← hW5]; exact Lib.hid HP4.out
      have HS5 : Hid (Step isPool w T w5 T4) := by rw [← hW5]; exact Lib.hid HS4.out.drew
      clear hW5 HP4 HS4 k1
      have k1 := hcell.out HS5.out
      rw [← S5.out]
      have z5 : s5.size = 512 := by
        show s5.data.toList.length = 512
        rw [S5.out, E5.out]; exact HX2.out
      have hwr := pool_write_page p d q s5 (layE es1 base) w5 T4 f4 (N + es1.length) HS5.out.fresh HP5.out z5
      have hd5 : s5.data.toList = bs := by rw [S5.out]; exact E5.out
      rw [hd5] at hwr
      have HWR := Lib.hid hwr
      clear hwr hd5 z5
      go_wp2_with fail
      refine HWR.out.mono ?_
      rintro e6 w6 ⟨rfl, hP6, hS6⟩
      have HP6 := Lib.hid hP6; have HS6 := Lib.hid (HS5.out.trans hS6)
      clear hP6 hS6 HWR HP5 HS5 k1
      have k1 := hcell.out HS6.out
      have hup := pool_unpin p d q _ w6 T4 f4 _ HS6.out.fresh HP6.out
      have HUP := Lib.hid hup
      clear hup
      go_wp2_with fail
      refine HUP.out.mono ?_
      rintro e7 w7 ⟨rfl, hP7, hS7⟩
      have HP7 := Lib.hid hP7; have HS7 := Lib.hid (HS6.out.trans hS7)
      clear hP7 hS7 HUP HP6 HS6 k1
      go_wp2_with fail
      rw [← S6.out]
      go_round
      case rel =>
        refine ⟨es1 ++ [(q, bs)], rest, s6, T4, f4, Lib.hid (by rw [HE.out]; simp), rfl, Lib.hid (by rw [S6.out]; exact E6.out), ?_, ?_, ?_, HS7⟩
        · refine Lib.hid ?_
          have : s6.size = (encE rest).length := by
            show s6.data.toList.length = _
            rw [S6.out, E6.out]
          have := HZ.out; have := HSZ.out
          omega
        · have h := HP7.out
          refine Lib.hid ?_
          rw [layE_append, List.length_append, List.length_singleton, ← Nat.add_assoc]
          exact h
        · exact Lib.hid (HW.out.snoc HW4.out)
      case measure =>
        show s6.size < s1.size
        have : s6.size = (encE rest).length := by
          show s6.data.toList.length = _
          rw [S6.out, E6.out]
        have := HSZ.out
        omega
end Go.Proofs.Ytiolpfneppchnaa
