/- The pool (layer 4): room, of a victim. -/
import Derived.Test.YtiolpfneppchnaaVsPool4
namespace Go.Proofs.Ytiolpfneppchnaa
open Go Go.RowKit Go.Vs

/-- frames as they were, but 'lately' and one's 'changed'. -/
def Let (fr fr' : Nat → Fr) (i : Nat) : Prop := ∀ j, ∃ b, fr' j = { fr j with lately := b, changed := if j = i then false else (fr j).changed }

theorem LateOnly.let {fr fr' : Nat → Fr} (h : LateOnly fr fr') (i : Nat) : Let fr (Go.Vs.upd fr' i { fr' i with changed := false }) i := by
  intro j
  obtain ⟨b, hb⟩ := h j
  by_cases e : j = i
  · subst e; exact ⟨b, by rw [upd_same, hb]; simp⟩
  · exact ⟨b, by rw [upd_other _ _ e, hb]; simp [e]⟩

def DidWrite (f f' : Nat → Bs) (nr nr' : Nat) (x : Fr) : Prop :=
  (x.changed = true ∧ f' = upd f 1 (wr (f 1) (x.page * 512) x.bytes) ∧ nr' = nr + 1) ∨ (x.changed = false ∧ f' = f ∧ nr' = nr)

/-- a map's entry goes. -/
theorem PoolM.del {w : World} {T : Tags} {p d most n hand : Nat} {fr : Nat → Fr} {at' : Int → Option Nat} (hf : Fresh w T) (h : PoolM w T p d most n hand fr at') (k : Int) (ty : TypeId) :
    ∃ m o, w.cell? ⟨p, 4, none⟩ = some (.map (some m)) ∧ (Builtin.delete_ #[125, 3] ty #[.map (some m), .int .i64 k]).run Try.prog w = .ok (.tuple #[]) (putObj w m o) ∧
      PoolM (putObj w m o) T p d most n hand fr (mupd at' k none) ∧ Step isPoolM w T (putObj w m o) T := by
  obtain ⟨m, lv, h1, h2, h3, h4, h5, h6⟩ := h
  obtain ⟨o, hr, hm⟩ := run_delete (P := Try.prog) 125 3 132 ty 3 und_pmap und_int h5 k
  have hs : Step (fun t => t == .pmap) w T (putObj w m o) T := (Step.refl hf).putObj (by rw [h2]; rfl)
  refine ⟨m, o, by rw [cell_at h3]; rfl, hr, ⟨m, lv, h1, h2, (put_other (ne_of_tag h2 h1 (by simp))).trans h3, h4.kept hs rfl, ?_, fun i hi => (h6 i hi).kept hs rfl rfl⟩, hs.mono (by intro t ht; rw [beq_iff_eq] at ht; rw [ht]; rfl)⟩
  have e : (fun j => (mupd at' k none j).map fun i => ptr (fr i).blk) = mupd (fun j => (at' j).map fun i => ptr (fr i).blk) k none := by
    funext j
    by_cases e : j = k
    · subst e; simp [mupd_same]
    · simp [mupd_other _ _ e]
  rw [e]; exact hm

theorem pool_write_any (p d most n hand : Nat) (fr : Nat → Fr) (at' : Int → Option Nat) (w : World) (T : Tags) (f : Nat → Bs) (nr : Nat) (hf : Fresh w T) (h : PoolM w T p d most n hand fr at') (hd : DiskR w T d f nr) {i : Nat} (hi : i < n) (hl : (fr i).bytes.length = 512) (hpg : (fr i).page < 4096) (hn : nr < 1099511627770) :
    Calls Try.prog 107 #[ptr p, ptr (fr i).blk] w fun e w' => e = .returned (.tuple #[]) ∧
      ∃ T' f' nr', PoolM w' T' p d most n hand (upd fr i { fr i with changed := false }) at' ∧ DidWrite f f' nr nr' (fr i) ∧ DiskR w' T' d f' nr' ∧ Step isPool w T w' T' := by
  cases hc : (fr i).changed with
  | false =>
    refine (pool_write_clean p d most n hand fr at' w T h hi hc).mono ?_
    rintro e w' ⟨rfl, rfl⟩
    have e1 : upd fr i { fr i with changed := false } = fr := by
      funext j
      by_cases e : j = i
      · subst e
        rw [upd_same]
        cases hq : fr j
        rw [hq] at hc
        simp at hc
        simp [hc]
      · rw [upd_other _ _ e]
    rw [e1]
    exact ⟨rfl, T, f, nr, h, .inr ⟨hc, rfl, rfl⟩, hd, Step.refl hf⟩
  | true =>
    refine (pool_write p d most n hand fr at' w T f nr hf h hd hi hc hl hpg hn).mono ?_
    rintro e w' ⟨rfl, T', h1, h2, h3⟩
    exact ⟨rfl, T', _, _, h1, .inl ⟨hc, rfl, rfl⟩, h2, h3⟩

set_option maxRecDepth 100000 in
set_option maxHeartbeats 800000 in
theorem pool_room_old (p d n hand : Nat) (fr : Nat → Fr) (at' : Int → Option Nat) (w : World) (T : Tags) (f : Nat → Bs) (nr : Nat) (hf : Fresh w T) (h : PoolM w T p d n n hand fr at') (hd : DiskR w T d f nr) (hn : 0 < n) (hn2 : n ≤ 1024) (hh : hand < n)
    (hp : ∀ i, i < n → (fr i).pins = 0) (hl : ∀ i, i < n → (fr i).bytes.length = 512) (hpg : ∀ i, i < n → (fr i).page < 4096) (hnr : nr < 1099511627770) :
    Calls Try.prog 94 #[ptr p] w fun e w' => ∃ i hand' fr' f' nr' T', e = .returned (ptr (fr' i).blk) ∧ i < n ∧ hand' < n ∧ Let fr fr' i ∧ DidWrite f f' nr nr' (fr i) ∧
      PoolM w' T' p d n n hand' fr' (mupd at' (fr i).page none) ∧ DiskR w' T' d f' nr' ∧ Step isPool w T w' T' := by
  obtain ⟨g0, cap0, c2, _, _, _⟩ := h.list hn
  have c1 := h.c1
  have HV := Lib.hid (pool_victim p d n n hand fr at' w T hf h hn hn2 hh hp)
  have hvq : Hid (∀ q, Calls Try.prog 108 #[ptr p] (w.drewN q) fun e w' => ∃ i hand' fr', e = .returned (ptr (fr' i).blk) ∧ i < n ∧ hand' < n ∧ PoolM w' T p d n n hand' fr' at' ∧ LateOnly fr fr' ∧ Step isPoolM (w.drewN q) T w' T) :=
    fun q => pool_victim p d n n hand fr at' (w.drewN q) T hf h hn hn2 hh hp
  have HD := Lib.hid hd; have HL := Lib.hid hl; have HPG := Lib.hid hpg
  have hnn : ¬ (n : Int) < n := by omega
  clear h hd hl hpg hp
  go_enter Try.func94, Try.ntmps94
  go_wp2
  go_quiet (fail)
  go_wp2_with fail
  refine (hvq.out nq).mono ?_
  rintro e1 w1 ⟨i, hand', fr', rfl, hi, hh', hM1, hLO, hS1⟩
  have D1 : DiskR w1 T d f nr := (HD.out.drewN nq).kept hS1 (fun t ht => by cases t <;> first | rfl | cases ht)
  have HD1 := Lib.hid D1; have HM1 := Lib.hid hM1; have HLO := Lib.hid hLO; have HS1 := Lib.hid hS1
  obtain ⟨bl, hbl⟩ : ∃ bl, bl = (fr' i).blk := ⟨_, rfl⟩
  have HBL := Lib.hid hbl
  rw [← hbl]
  clear D1 hM1 hLO hS1 c2 c1 hbl
  have hLe : (fr' i).bytes = (fr i).bytes ∧ (fr' i).page = (fr i).page ∧ (fr' i).changed = (fr i).changed := by
    obtain ⟨b, hb⟩ := HLO.out i
    rw [hb]; exact ⟨rfl, rfl, rfl⟩
  have HLE := Lib.hid hLe
  clear hLe
  go_wp2_with fail
  rw [HBL.out]
  refine (pool_write_any p d n n hand' fr' at' w1 T f nr HS1.out.fresh HM1.out HD1.out hi (by rw [HLE.out.1]; exact HL.out i hi) (by rw [HLE.out.2.1]; exact HPG.out i hi) hnr).mono ?_
  rintro e2 w2 ⟨rfl, T2, f2, nr2, hM2, hW2, hD2, hS2⟩
  rw [← HBL.out]
  have HM2 := Lib.hid hM2; have HD2 := Lib.hid hD2; have HW2 := Lib.hid hW2; have HS2 := Lib.hid hS2
  clear hM2 hD2 hW2 hS2 HM1 HD1 HV hvq HD
  obtain ⟨m, o, c4, hdel, hM4, hS4⟩ := PoolM.del (w := w2.drew) (T := T2) HS2.out.fresh HM2.out ((fr i).page : Int) 0
  have k0 : w2.cell? ⟨bl, 0, none⟩ = some (.int .i64 (fr i).page) := by
    have hF := HM2.out.frame hi
    rw [upd_same] at hF
    rw [HBL.out, ← HLE.out.2.1]
    exact hF.cell 0
  have c4 : w2.cell? ⟨p, 4, none⟩ = some (.map (some m)) := c4
  have HM4 := Lib.hid hM4; have HS4 := Lib.hid hS4
  obtain ⟨pg, hpg⟩ : ∃ pg, pg = (fr i).page := ⟨_, rfl⟩
  rw [← hpg] at k0 hdel
  have HP := Lib.hid hpg
  clear hM4 hS4 hpg
  go_wp2
  go_still_tail 8, (by kernel_rfl)
  change wpList _ _ _ _ _ (World.drew _)
  go_wp2
  go_ret
  have hw : DidWrite f f2 nr nr2 (fr i) := by
    have := HW2.out
    unfold DidWrite at this ⊢
    rw [HLE.out.1, HLE.out.2.1, HLE.out.2.2] at this
    exact this
  have hd2 : DiskR w2.drew T2 d f2 nr2 := HD2.out.drew
  refine ⟨i, hand', upd fr' i { fr' i with changed := false }, f2, nr2, T2, by rw [upd_same, HBL.out]; rfl, hi, hh', HLO.out.let i, hw, HM4.out, hd2.kept HS4.out (fun t ht => by cases t <;> first | rfl | cases ht), ?_⟩
  have t1 : Step isPool w T w1 T := ((Step.refl hf).drewN nq).trans (HS1.out.mono (fun t ht => by unfold isPool; rw [ht]; rfl))
  exact (t1.trans HS2.out).drew.trans (HS4.out.mono (fun t ht => by unfold isPool; rw [ht]; rfl))

end Go.Proofs.Ytiolpfneppchnaa
