/- The space (layer 5): Open. -/
import Derived.Test.YtiolpfneppchnaaVsSp7
namespace Go.Proofs.Ytiolpfneppchnaa
open Go Go.RowKit Go.Vs

/-- a space at rest. -/
def SpR (w : World) (T : Tags) (s d : Nat) (K : Kept) (fl : List Nat) (N : Nat) : Prop :=
  ∃ l p m f free, SpaceI w T s l p d m (.pointer none) f K free N ∧ Meta K.base fl ∧ GoneIs free fl

def isSp : Tag → Bool
  | .abytes _ => true
  | t => isSpR t

def memB (l : List Nat) : Int → Bool := fun k => l.any fun q => k == (q : Int)

theorem memB_is (l : List Nat) : GoneIs (memB l) l := by
  intro k
  unfold memB
  rw [List.any_eq_true]
  constructor
  · rintro ⟨q, hq, e⟩; exact ⟨q, hq, by simpa using e⟩
  · rintro ⟨q, hq, e⟩; exact ⟨q, hq, by simpa using e⟩

theorem memB_snoc (l : List Nat) (q : Nat) : setV (memB (l ++ [q])) = mupd (setV (memB l)) q (some (.bool true)) := by
  funext k
  by_cases e : k = q
  · subst e; simp [mupd_same, setV, memB]
  · simp [mupd_other _ _ e, setV, memB, e]

theorem WroteBut.append {a b : List Ent} {f g h : Nat → Bs} {base : Nat → Bs} (h1 : WroteBut a f g base) (h2 : WroteBut b g h (layE a base)) : WroteBut (a ++ b) f h base :=
  ⟨h2.1.trans h1.1, fun q hq hn => by
    have ha : ∀ y ∈ a, y.1 ≠ q := fun y hy => hn y (by simp [hy])
    rcases h2.2 q hq (fun y hy => hn y (by simp [hy])) with e | e
    · rw [e]; exact h1.2 q hq ha
    · right; rw [e, layE_other _ _ _ ha]⟩

/-- the disk still bears what it bore, behind the records were laid into the pool. -/
theorem J.opened {f f' : Nat → Bs} {K : Kept} (h : J f K) (hw : WroteBut K.recs.flatten f f' (pg (f 1))) : J f' K := by
  obtain ⟨h1, h2, h3⟩ := h
  refine ⟨hw.1.trans h1, h2, fun q hq => ?_⟩
  by_cases e : ∃ x ∈ K.recs.flatten, x.1 = q
  · rw [layE_some _ _ (pg (f 1)) q e]; exact h3 q hq
  · have hn : ∀ x ∈ K.recs.flatten, x.1 ≠ q := fun x hx ex => e ⟨x, hx, ex⟩
    rw [← h3 q hq, layE_other _ _ _ hn, layE_other _ _ _ hn]
    rcases hw.2 q hq hn with e | e <;> exact e

theorem idx_chain {done rest : List Nat} (h : (done ++ rest).Nodup) {cur : Nat → Bs} {t n : Nat} (hc : Chain cur t n rest) (h1 : ∀ q ∈ done ++ rest, 1 ≤ q) : (done ++ rest).idxOf n = done.length := by
  have hnd : n ∉ done := by
    cases rest with
    | nil =>
      intro hm
      have : n = 0 := hc
      have := h1 n (by simp [hm])
      omega
    | cons q l =>
      obtain ⟨rfl, _⟩ := hc
      intro hm
      exact (List.nodup_append.1 h).2.2 n hm n (by simp) rfl
  rw [List.idxOf_append, if_neg hnd]
  cases rest with
  | nil => simp
  | cons q l =>
    obtain ⟨rfl, _⟩ := hc
    simp

/-- pages of a base beyond what matters. -/
theorem PoolR.base {w : World} {T : Tags} {p d N : Nat} {base base' : Nat → Bs} {f : Nat → Bs} (h : PoolR w T p d base f N) (he : ∀ q, q < 4096 → base' q = base q) : PoolR w T p d base' f N := by
  obtain ⟨n, most, hand, fr, at', nr, hM, hD, L⟩ := h
  exact ⟨n, most, hand, fr, at', nr, hM, hD, { L with bas := fun i hi hl => by rw [he _ (L.page i hi hl)]; exact L.bas i hi hl, out := fun q hq hat => by rw [he q hq]; exact L.out q hq hat }⟩

theorem isSp_pool : ∀ t, isPool t = true → isSp t = true := by
  intro t ht
  cases t <;> first | rfl | exact ht
theorem isSp_poolB (q : Nat) : ∀ t, isPoolB q t = true → isSp t = true := by
  intro t ht
  cases t <;> first | rfl | (exfalso; revert ht; simp [isPoolB, isPool, isPoolM, isDisk])
theorem isSp_logD : ∀ t, isLogD t = true → isSp t = true := by
  intro t ht
  cases t <;> first | rfl | exact ht | cases ht

theorem PoolR.monoN {w : World} {T : Tags} {p d N N' : Nat} {base : Nat → Bs} {f : Nat → Bs} (h : PoolR w T p d base f N) (hN : N ≤ N') : PoolR w T p d base f N' := by
  obtain ⟨n, most, hand, fr, at', nr, hM, hD, L⟩ := h
  exact ⟨n, most, hand, fr, at', nr, hM, hD, { L with cnt := Nat.le_trans L.cnt hN }⟩

set_option maxRecDepth 100000 in
set_option maxHeartbeats 1600000 in
theorem space_open (d frames : Nat) (w : World) (T : Tags) (f : Nat → Bs) (nr N : Nat) (K : Kept) (fl : List Nat) (hf : Fresh w T) (hd : DiskR w T d f nr) (hj : J f K) (hm : Meta K.base fl) (h1 : 4 ≤ frames) (h2 : frames ≤ 1024) (hfl : (f 1).length ≤ 2097152) (hnr : nr + K.recs.flatten.length ≤ N) (hN : N < 1099511627770) :
    Calls Try.prog 8 #[ptr d, .int .i64 frames] w fun e w' => ∃ s, e = .returned (.tuple #[ptr s, .int .i64 0]) ∧ w.heap.size ≤ s ∧ ∃ T', SpR w' T' s d K fl N ∧ Step isSp w T w' T' := by
  have hrecs : ∀ r ∈ K.recs.map encE, 0 < r.length ∧ r.length ≤ 1048576 := by
    intro r hr
    obtain ⟨es, hes, rfl⟩ := List.mem_map.1 hr
    obtain ⟨a, b, c⟩ := hj.2.1 es hes
    refine ⟨?_, b⟩
    cases es with
    | nil => exact absurd rfl a
    | cons x es => rw [encE_cons]; simp [be4_length]; omega
  have hlo := log_open d w T f nr (K.recs.map encE) hf hd hj.1 hrecs
  rw [List.length_map] at hlo
  have hmm := @run_makeMap Try.prog
  have k1 : ¬ (frames : Int) < 4 := by omega
  have k2 : ¬ (1024 : Int) < frames := by omega
  have HLO := Lib.hid hlo; have HJ := Lib.hid hj; have HM := Lib.hid hm; have HFL := Lib.hid hfl; have HNR := Lib.hid hnr; have HFL0 := Lib.hid (show (f 0).length ≤ 4194304 from (hd.file (i := 0) (by omega)).elim fun _ h => h.elim fun _ h => h.2.2.2.1)
  clear hlo hj hm hfl hnr hrecs hd
  go_enter Try.func8, Try.ntmps8
  go_wp2_with fail
  refine HLO.out.mono ?_
  rintro e1 w1 ⟨l, v, T1, rfl, hL1, hD1, hv1, hS1, hB1, hll, hTv⟩
  obtain ⟨ao, cap, hva⟩ : ∃ ao cap, v = .slice ao K.recs.length cap := by
    rcases hv1.2 with ⟨e, e2⟩ | ⟨g, cap, cur, e, _⟩
    · exact ⟨none, 0, by rw [e, e2]⟩
    · exact ⟨_, _, e⟩
  subst hva
  have HL1 := Lib.hid hL1; have HD1 := Lib.hid hD1; have HV1 := Lib.hid hv1; have HS1 := Lib.hid hS1; have HTV := Lib.hid hTv
  clear hL1 hD1 hv1 hS1 hB1 HLO hTv
  have hrow : ∀ i es, K.recs[i]? = some es → ∃ g, ao = some ⟨g, 0, none⟩ ∧ w1.cell? ⟨g, i, none⟩ = some (str (encE es)) ∧ T1 g = .none ∧ g < w1.heap.size := by
    intro i es hi
    have hin : i < K.recs.length := (List.getElem?_eq_some_iff.1 hi).1
    rcases HV1.out.2 with ⟨e, e2⟩ | ⟨g, cap', cur, e, _, hg, _, _, _, ht⟩
    · omega
    · injection e with e1 e2 e3
      refine ⟨g, e1, ?_, HTV.out g (by rw [e1]; rfl), lt_of_at hg⟩
      have : ((K.recs.map encE).map str)[i]? = some (str (encE es)) := by simp [hi]
      rw [← ht, List.getElem?_take, if_pos (by omega)] at this
      rw [cell_at hg]; simpa using this
  have HROW := Lib.hid hrow
  clear hrow HV1 HTV
  -- the map and the space's block are laid
  obtain ⟨m, hmB⟩ : ∃ m, m = w1.heap.size := ⟨_, rfl⟩
  go_wp2_with fail
  rw [← hmB]
  obtain ⟨ws, hws⟩ : ∃ ws, ws = (w1.alloc (.map #[] 0)).alloc (.cells #[.pointer (some ⟨l, 0, none⟩), .pointer none, .pointer none, .map (some m)] 57) := ⟨_, rfl⟩
  rw [← hws]
  have z1 : (w1.alloc (.map #[] 0)).heap.size = m + 1 := by rw [hmB]; exact alloc_size
  have a1 : Step (fun t => t == .free || t == .space) w1 T1 (w1.alloc (.map #[] 0)) (T1.put m .free) := by rw [hmB]; exact (Step.refl HS1.out.fresh).allocTag _ rfl
  have a2 : Step (fun t => t == .free || t == .space) w1 T1 ws ((T1.put m .free).put (m + 1) .space) := by
    have := a1.allocTag (.cells #[.pointer (some ⟨l, 0, none⟩), .pointer none, .pointer none, .map (some m)] 57) (t := .space) rfl
    rw [z1] at this
    rw [hws]; exact this
  have b1 : ws.heap[m + 1]? = some (.cells #[.pointer (some ⟨l, 0, none⟩), .pointer none, .pointer none, .map (some m)] 57 (0, 0)) := by
    have := alloc_new (w := w1.alloc (.map #[] 0)) (o := .cells #[.pointer (some ⟨l, 0, none⟩), .pointer none, .pointer none, .map (some m)] 57)
    rw [z1] at this; rw [hws]; exact this
  have b2 : IMap ws m (setV (memB [])) := by
    have h := IMap.new w1
    rw [← hmB] at h
    have h2 := h.kept (w' := ws) (by rw [hws]; exact alloc_old (by rw [z1]; omega))
    exact h2
  have t1 : ((T1.put m .free).put (m + 1) .space) m = .free := by rw [Tags.put_other _ _ (by omega)]; exact Tags.put_same _ _ _
  have t2 : ((T1.put m .free).put (m + 1) .space) (m + 1) = .space := Tags.put_same _ _ _
  obtain ⟨T2, hT2⟩ : ∃ T2, T2 = (T1.put m .free).put (m + 1) .space := ⟨_, rfl⟩
  rw [← hT2] at a2 t1 t2
  have hD2 := HD1.out.kept a2 (fun t ht => by cases t <;> first | rfl | cases ht)
  have hL2 := HL1.out.kept a2 rfl
  have S2 : Step isSp w T ws T2 := (HS1.out.mono isSp_logD).trans (a2.mono (fun t ht => by simp at ht; rcases ht with h | h <;> rw [h] <;> rfl))
  have hpn := pool_new d frames ws T2 f nr nr S2.fresh hD2 (by omega) h2 HFL.out (Nat.le_refl _)
  have hmw : w1.heap.size ≤ m := by omega
  have HPN := Lib.hid hpn; have HL2 := Lib.hid hL2; have HS2 := Lib.hid S2; have B1 := Lib.hid b1; have B2 := Lib.hid b2; have A2 := Lib.hid a2
  have hwm : w.heap.size ≤ m := by have := HS1.out.size; omega
  clear hpn hL2 hD2 S2 b1 b2 a1 a2 z1 hws hT2 hmB HL1 HD1 HS1 hmm
  refine HPN.out.mono ?_
  rintro e3 w3 ⟨p, T3, rfl, hp3, hP3, hS3⟩
  have q1 : w3.heap[m + 1]? = _ := hS3.at B1.out (by rw [t2]; rfl)
  have q2 : T3 (m + 1) = .space := hS3.tag B1.out t2
  have q3 : T3 m = .free := hS3.tagOf B2.out.lt t1
  have q4 : IMap w3 m (setV (memB [])) := B2.out.keptStep t1 hS3 rfl
  have hL3 := HL2.out.kept hS3 rfl
  have k1' : w3.cell? ⟨m + 1, 1, none⟩ = some (.pointer none) := by rw [cell_at q1]; rfl
  have z1' : w3.frozen? ⟨m + 1, 1, none⟩ = false := froz_at q1
  have s4 : Step (fun t => t == .space) w3 T3 (w3.setCell ⟨m + 1, 1, none⟩ (ptr p)) T3 := (Step.refl hS3.fresh).setCell (by rw [q2]; rfl)
  have hrow3 : ∀ i es, K.recs[i]? = some es → ∃ g, ao = some ⟨g, 0, none⟩ ∧ (w3.setCell ⟨m + 1, 1, none⟩ (ptr p)).cell? ⟨g, i, none⟩ = some (str (encE es)) ∧ T3 g = .none ∧ g < (w3.setCell ⟨m + 1, 1, none⟩ (ptr p)).heap.size := by
    intro i es hi
    obtain ⟨g, r1, r2, r3, r4⟩ := HROW.out i es hi
    have u1 : ws.heap[g]? = w1.heap[g]? := A2.out.same g r4 (by rw [r3]; rfl)
    have u2 : T2 g = .none := A2.out.tagOf r4 r3
    have r4' : g < ws.heap.size := Nat.lt_of_lt_of_le r4 A2.out.size
    have u3 : w3.heap[g]? = ws.heap[g]? := hS3.same g r4' (by rw [u2]; rfl)
    have u4 : T3 g = .none := hS3.tagOf r4' u2
    have r4'' : g < w3.heap.size := Nat.lt_of_lt_of_le r4' hS3.size
    have u5 := s4.same g r4'' (by rw [u4]; rfl)
    refine ⟨g, r1, ?_, u4, Nat.lt_of_lt_of_le r4'' s4.size⟩
    simp only [World.cell?, u5, u3, u1] at r2 ⊢
    exact r2
  have hM4 : SpaceM (w3.setCell ⟨m + 1, 1, none⟩ (ptr p)) T3 (m + 1) l p m (.pointer none) := ⟨q2, set_same q1⟩
  have hP4 := hP3.kept s4 (fun t ht => by cases t <;> first | rfl | cases ht)
  have hL4 := hL3.kept s4 rfl
  have hF4 : FreeM (w3.setCell ⟨m + 1, 1, none⟩ (ptr p)) T3 m (memB []) := ⟨q3, q4.keptStep q3 s4 rfl⟩
  have S4 : Step isSp w T (w3.setCell ⟨m + 1, 1, none⟩ (ptr p)) T3 := (HS2.out.trans (hS3.mono isSp_pool)).trans (s4.mono (fun t ht => by rw [beq_iff_eq] at ht; rw [ht]; rfl))
  obtain ⟨w4, hw4⟩ : ∃ w4, w4 = w3.setCell ⟨m + 1, 1, none⟩ (ptr p) := ⟨_, rfl⟩
  rw [← hw4] at hrow3 hM4 hP4 hL4 hF4 S4
  have HRW := Lib.hid hrow3; have HM4 := Lib.hid hM4; have HP4 := Lib.hid hP4; have HL4 := Lib.hid hL4; have HF4 := Lib.hid hF4; have HS4 := Lib.hid S4; have HW4 := Lib.hid hw4
  clear hrow3 hM4 hP4 hL4 hF4 S4 s4 q1 q2 q3 q4 hL3 hP3 hS3 HPN HL2 HS2 B1 B2 A2 HROW t1 t2 hw4
  go_wp2_with fail
  rw [← HW4.out]
  clear k1' z1' HW4
  obtain ⟨sB, hsB⟩ : ∃ sB, sB = m + 1 := ⟨_, rfl⟩
  rw [← hsB] at HM4 ⊢
  have hsw : w.heap.size ≤ sB := by omega
  clear hsB
  have hst0 : Hid (Step isPool w4 T3 w4 T3) := Lib.hid (Step.refl HS4.out.fresh)
  have hlenr : (K.recs.length : Int) ≤ 4194304 := by
    have a1 := (HJ.out).1
    have a2 : K.recs.length ≤ (f 0).length := by
      rw [a1]
      refine encR_len_le _ _ (by rw [List.length_map]) ?_
      intro x hx
      obtain ⟨es, hes, rfl⟩ := List.mem_map.1 hx
      obtain ⟨a, _, _⟩ := (HJ.out).2.1 es hes
      cases es with
      | nil => exact absurd rfl a
      | cons y es => rw [encE_cons]; simp [be4_length]; omega
    have a3 := HFL0.out
    omega
  go_loopw [11, 43] (fun _ u43 wr => ∃ (i : Nat) (T5 : Tags) (f5 : Nat → Bs), u43 = .int .i64 i ∧ i ≤ K.recs.length ∧ Hid (PoolR wr T5 p d (layE (K.recs.take i).flatten (pg (f 1))) f5 (nr + (K.recs.take i).flatten.length)) ∧ Hid (WroteBut (K.recs.take i).flatten f f5 (pg (f 1))) ∧ Hid (Step isPool w4 T3 wr T5)) (fun _ u43 _ => K.recs.length - (intOf u43).toNat)
  case atStart => exact ⟨0, T3, f, rfl, Nat.zero_le _, HP4, Lib.hid (WroteBut.refl _ _), hst0⟩
  case round =>
    obtain ⟨i, T5, f5, rfl, hi, HP5, HW5, HS5⟩ := hrel
    by_cases hin : i < K.recs.length
    · obtain ⟨es, hes⟩ : ∃ es, K.recs[i]? = some es := ⟨_, List.getElem?_eq_getElem hin⟩
      obtain ⟨g, rfl, r2, r3, r4⟩ := HRW.out i es hes
      have r5 : wr.cell? ⟨g, i, none⟩ = some (str (encE es)) := by
        have u5 := HS5.out.same g r4 (by rw [r3]; rfl)
        simp only [World.cell?, u5] at r2 ⊢
        exact r2
      obtain ⟨sv, hsv, hsd, hss⟩ := str_split (encE es)
      rw [hsv] at r5
      have hmem : es ∈ K.recs := List.mem_of_getElem? hes
      have hok := (HJ.out).2.1 es hmem
      have htk : K.recs.take (i + 1) = K.recs.take i ++ [es] := by
        rw [List.take_add_one, hes]; rfl
      have hfl2 : (K.recs.take (i + 1)).flatten = (K.recs.take i).flatten ++ es := by rw [htk]; simp
      have hle : (K.recs.take (i + 1)).flatten.length ≤ K.recs.flatten.length := by
        have : K.recs.flatten = (K.recs.take (i + 1)).flatten ++ (K.recs.drop (i + 1)).flatten := by rw [← List.flatten_append, List.take_append_drop]
        rw [this, List.length_append]; omega
      have hM5 := HM4.out.kept HS5.out rfl
      have hap := space_apply sB p d es sv hsd hok.2.2 (by rw [hss]; have := hok.2.1; omega) _ wr T5 f5 _ HS5.out.fresh hM5.1 hM5.c1 HP5.out (by
        have := HNR.out
        rw [hfl2, List.length_append] at hle; omega)
      have HAP := Lib.hid hap; have HF2 := Lib.hid hfl2
      have hii : (i : Int) < K.recs.length := by omega
      clear hap hsv hsd hss hok htk hfl2 hle hM5 r2 r3 r4 hmem hes hst0
      go_wp2_with fail
      refine HAP.out.mono ?_
      rintro e6 w6 ⟨rfl, T6, ⟨f6, hP6, hW6⟩, hS6⟩
      have HP6 := Lib.hid hP6; have HW6 := Lib.hid hW6; have HS6 := Lib.hid (HS5.out.trans hS6)
      clear hP6 hW6 hS6 HAP
      go_wp2_with fail
      go_round
      case rel =>
        refine ⟨i + 1, T6, f6, by go_num, by omega, ?_, ?_, HS6⟩
        · refine Lib.hid ?_
          rw [HF2.out, layE_append, List.length_append, ← Nat.add_assoc]
          exact HP6.out
        · refine Lib.hid ?_
          rw [HF2.out]
          exact HW5.out.append HW6.out
      case measure => simp [intOf]; omega
    · obtain rfl : i = K.recs.length := by omega
      have hii : ¬ (K.recs.length : Int) < K.recs.length := by omega
      have hP5 := HP5.out
      have hW5 := HW5.out
      rw [List.take_length] at hP5 hW5
      have hJ5 : J f5 K := (HJ.out).opened hW5
      have hP6 : PoolR wr T5 p d K.base f5 N := (hP5.base (base' := K.base) (fun q hq => ((HJ.out).2.2 q hq).symm)).monoN HNR.out
      have hI : SpaceI wr T5 sB l p d m (.pointer none) f5 K (memB []) N := ⟨HM4.out.kept HS5.out rfl, HF4.out.kept HS5.out rfl, by rw [hW5.1]; exact HL4.out.kept HS5.out rfl, hP6, hJ5⟩
      have HI := Lib.hid hI; have HSS := Lib.hid (HS4.out.trans (HS5.out.mono isSp_pool))
      clear hP5 hW5 hJ5 hP6 hI HP5 HW5 HS5 HP4 HL4 HF4 HM4 HRW hst0
      have hby := space_bytes sB p d 0 K.base wr T5 f5 N HSS.out.fresh HI.out.sp.1 HI.out.sp.c1 HI.out.pl (by omega) hN
      have HBY := Lib.hid hby
      clear hby
      go_wp2_with fail
      refine HBY.out.mono ?_
      rintro e7 w7 ⟨g, cap7, T7, f7, rfl, hB7, hlen7, _, _, hP7, hW7, hS7⟩
      have hsb := hB7.slb
      rw [hlen7] at hsb
      have HI7 := Lib.hid (HI.out.pool hS7 rfl rfl rfl hP7 hW7); have HS7 := Lib.hid (HSS.out.trans (hS7.mono (isSp_poolB 0))); have HSB := Lib.hid hsb; have HL7 := Lib.hid hlen7
      clear hP7 hW7 hS7 HBY hsb hB7 HI HSS hlen7
      go_wp2_with (with_reducible refine hold_slice _ _ _ _ _ rfl ?_)
      unfold Hold
      refine wpList_cut_l rfl _ _ _ rfl _ und_bytes size_u8 rfl HSB.out rfl (by omega) (by rw [HL7.out]; omega) ?_
      intro r hr _
      have e0 : (K.base 0).drop (4 : Int).toNat = (K.base 0).drop 4 := rfl
      rw [e0] at hr
      have HR := Lib.hid hr
      clear hr e0 HSB
      go_wp2_with (go_at_call 40; refine (number_any _ _ (by rw [List.length_drop, HL7.out]; omega) _ HR.out).mono ?_; rintro e w' ⟨rfl, kk, rfl⟩)
      obtain ⟨wl, hwl⟩ : ∃ wl, wl = w7.drewN kk := ⟨_, rfl⟩
      have sl : Step (fun _ => false) w7 T7 wl T7 := by rw [hwl]; exact (Step.refl HS7.out.fresh).drewN kk
      have HIL := Lib.hid (HI7.out.kept sl (fun _ _ => rfl)); have HSL := Lib.hid (HS7.out.trans (sl.mono (fun t ht => by cases ht)))
      rw [← hwl]
      have hch : Hid (Chain K.base (tot K.base) (num4 ((K.base 0).drop 4)) fl) := Lib.hid (HM.out).chain
      clear hwl sl HI7 HS7 HR
      go_loopw [13] (fun u13 wr => ∃ (done rest : List Nat) (n : Nat) (T8 : Tags) (f8 : Nat → Bs), u13 = .int .i64 n ∧ Hid (fl = done ++ rest) ∧ Hid (Chain K.base (tot K.base) n rest) ∧ Hid (SpaceI wr T8 sB l p d m (.pointer none) f8 K (memB done) N) ∧ Hid (Step isSp w T wr T8)) (fun u13 _ => fl.length - fl.idxOf (intOf u13).toNat)
      case atStart => exact ⟨[], fl, _, T7, f7, rfl, Lib.hid rfl, hch, HIL, HSL⟩
      case round =>
        obtain ⟨done, rest, n, T8, f8, rfl, HE, HC, HI8, HS8⟩ := hrel
        cases rest with
        | nil =>
          have hn : n = 0 := HC.out
          subst hn
          have hfd : done = fl := by have := HE.out; simpa using this.symm
          have HFD := Lib.hid hfd
          clear hfd
          go_wp2_with fail
          go_ret2
          refine ⟨sB, rfl, hsw, T8, ⟨l, p, m, f8, memB done, HI8.out, HM.out, ?_⟩, HS8.out⟩
          rw [HFD.out]; exact memB_is fl
        | cons q rest =>
          obtain ⟨hnq, hq1, hq2, hc⟩ := HC.out
          subst hnq
          have hq : n < 4096 := by have := (HM.out).tle; omega
          have hqz : ((n : Int) != 0) = true := by simp; omega
          have hI := HI8.out
          obtain ⟨o, hup, hmp⟩ := run_update (P := Try.prog) 45 3 4 und_bmap und_int hI.fr.2 (n : Int) (.bool true)
          rw [← memB_snoc] at hmp
          have sm : Step (fun t => t == .free) wr T8 (putObj wr m o) T8 := (Step.refl HS8.out.fresh).putObj (by rw [hI.fr.1]; rfl)
          have hI9 : SpaceI (putObj wr m o) T8 sB l p d m (.pointer none) f8 K (memB (done ++ [n])) N := ⟨hI.sp.kept sm rfl, ⟨hI.fr.1, hmp⟩, hI.lg.kept sm rfl, hI.pl.kept sm (fun t ht => by cases t <;> first | rfl | cases ht), hI.jj⟩
          have k3 := hI.sp.c3
          have hby := space_bytes sB p d n K.base (putObj wr m o) T8 f8 N sm.fresh hI9.sp.1 hI9.sp.c1 hI9.pl hq hN
          have HBY := Lib.hid hby; have HI9 := Lib.hid hI9; have HS9 := Lib.hid (HS8.out.trans (sm.mono (fun t ht => by rw [beq_iff_eq] at ht; rw [ht]; rfl))); have HC9 := Lib.hid hc
          clear hby hI hmp sm hI9 HI8 HS8 hc
          go_wp2_with fail
          refine HBY.out.mono ?_
          rintro e10 w10 ⟨g10, cap10, T10, f10, rfl, hB10, hlen10, _, _, hP10, hW10, hS10⟩
          have hsb := hB10.slb
          have HI10 := Lib.hid (HI9.out.pool hS10 rfl rfl rfl hP10 hW10); have HS10 := Lib.hid (HS9.out.trans (hS10.mono (isSp_poolB n)))
          have hnum := number_any _ _ (by omega) w10 hsb
          rw [hlen10] at hnum
          clear hP10 hW10 hS10 HBY hsb hB10 HI9 HS9 hlen10
          go_wp2_with (go_at_call 40; refine hnum.mono ?_; rintro e w' ⟨rfl, kk, rfl⟩)
          have sl : Step (fun _ => false) w10 T10 (w10.drewN kk) T10 := (Step.refl HS10.out.fresh).drewN kk
          go_round
          case rel => exact ⟨done ++ [n], rest, _, T10, f10, rfl, Lib.hid (by rw [HE.out]; simp), HC9, Lib.hid (HI10.out.kept sl (fun _ _ => rfl)), Lib.hid (HS10.out.trans (sl.mono (fun t ht => by cases ht)))⟩
          case measure =>
            have hnd := (HM.out).nodup
            have hch2 := (HM.out).chain
            have h1 : ∀ r ∈ done ++ n :: rest, 1 ≤ r := fun r hr => (hch2.mem r (by rw [HE.out]; exact hr)).1
            rw [HE.out] at hnd ⊢
            have e1 := idx_chain hnd (n := n) (rest := n :: rest) ⟨rfl, hq1, hq2, HC9.out⟩ h1
            have e2 := idx_chain (done := done ++ [n]) (rest := rest) (by simpa using hnd) HC9.out (fun r hr => h1 r (by simpa using hr))
            simp only [List.append_assoc, List.singleton_append] at e2
            simp only [intOf, Int.toNat_natCast]
            rw [e1, e2]
            simp
            omega
end Go.Proofs.Ytiolpfneppchnaa
