/- The space (layer 5): Commit. -/
import Derived.Test.YtiolpfneppchnaaVsSp10
namespace Go.Proofs.Ytiolpfneppchnaa
open Go Go.RowKit Go.Vs



theorem below_trans {B C : Nat} {a b c : World} (h : Below B a b) (k : Below C b c) (hBC : B ≤ C) : Below B a c :=
  ⟨k.os.trans h.os, k.tape.trans h.tape, k.output.trans h.output, Nat.le_trans h.size k.size, fun i hi => (k.block i (by omega)).trans (h.block i hi)⟩

theorem below_drew {B : Nat} {a b : World} (h : Below B a b) : Below B a b.drew := below_drewN' h 1

/-- append as one step of a region that draws. -/
theorem step_append_src {P : Program} {ops : Array Oper} {o : Oper} {a : Act} {w : World} {K : Act → World → Prop} {Q : Exit → Act → World → Prop} {X : Prop}
    (hg : o.guard = none) (s x : Operand) (t tx : TypeId) (hop : o.op = Op.call { callee := Callee.builtin Builtin.append, args := #[s, x], argTypes := #[t, tx] })
    (base : Nat) (e : TypeId) (i : TypeInfo) (z : Value) (size bytes : Nat) (ht : P.underlying t = some (.slice e)) (hi : P.info? e = some i) (hz : i.zero = some z)
    (hsize : i.size = size) (hby : i.bytes = bytes) (hzs : z.cells.size = size)
    (v : Value) (n : Nat) (xs : List Value) (hs : a.eval s = v) (hown : w.ownsRow base e size v n xs) (vx : Value) (m : Nat) (news : List Value) (hx : a.eval x = vx) (hsrc : Src P size tx vx m news w)
    (h63 : n + m ≤ maxLen) (hbytes : (n + m) * bytes ≤ 140737488355328) (hbase : base ≤ w.heap.size)
    (hK : ∀ v' w', w'.ownsRow base e size v' (n + m) (xs ++ news) → w.grownBy w' v.ownBlock → (v'.ownBlock = v.ownBlock ∨ v'.ownBlock = some w.heap.size) → K (a.put o.dst v') w') :
    if Region.wanted o (yielded ops a.tmps) = true then Oper.wp P o a w K Q else X := by
  have hw : Region.wanted o (yielded ops a.tmps) = true := by simp [Region.wanted, hg]
  rw [if_pos hw]
  obtain ⟨v', w', hr, h1, h2, _, h4⟩ := append_src (P := P) w base t tx o.type e i z size bytes ht hi hz hsize hby hzs v n xs hown vx m news hsrc h63 hbytes hbase
  unfold Oper.wp
  simp [execOp, hop, resolve, invoke, builtin, hs, hx, hr, Result.andThen]
  exact hK v' w' h1 h2 h4

theorem ownsRow_below {w w' : World} {base : Nat} {E : TypeId} {sz n : Nat} {v : Value} {xs : List Value} (h : w.ownsRow base E sz v n xs) (hb : Below w.heap.size w w') : w'.ownsRow base E sz v n xs :=
  ownsRow_same h (fun g hg => hb.block g (h.lt g hg).2)

theorem byteCells_eq (s : ByteArray) : byteCells s = cells s.data.toList := rfl

/-- the entries of pages. -/
def entsOf (cur : Nat → Bs) (ks : List Int) : List Ent := ks.map fun k => (k.toNat, cur k.toNat)

theorem encE_snoc (es : List Ent) (x : Ent) : encE (es ++ [x]) = (encE es ++ be4 x.1) ++ x.2 := by simp [encE]

theorem encE_length {es : List Ent} (h : ∀ x ∈ es, x.2.length = 512) : (encE es).length = 516 * es.length := by
  induction es with
  | nil => rfl
  | cons x es ih =>
    rw [encE_cons, List.length_append, List.length_append, be4_length, h x (by simp), ih (fun y hy => h y (by simp [hy]))]
    simp; omega

theorem row_reads {w : World} {base n : Nat} {v : Value} {bs : Bs} (h : w.ownsRow base 5 1 v n (cells bs)) : Reads w v bs := by
  have hl : bs.length = n := by have := h.1; rw [cells_length] at this; omega
  rcases h.2 with ⟨rfl, h0⟩ | ⟨g, cap, cur, rfl, hb, hg, h1, h2, h3, h4⟩
  · subst h0; exact .inl ⟨0, rfl, List.eq_nil_of_length_eq_zero hl⟩
  · subst hl
    refine .inr ⟨⟨g, 0, none⟩, cap, rfl, rfl, fun j x hj => ?_⟩
    have hlt : j < bs.length := (List.getElem?_eq_some_iff.1 hj).1
    have e : (cells bs)[j]? = some (.int .u8 x.toNat) := by rw [cells_get, hj]; rfl
    rw [← h4, List.getElem?_take, if_pos (by omega)] at e
    rw [cell_at hg]; simpa using e

theorem lay_end (a b s : Bs) : lay (a ++ b) a.length s = a ++ s ++ (a ++ b).drop (a.length + s.length) := by
  unfold lay
  rw [List.take_left]

theorem wr_log (old s : Bs) (n : Nat) : wr (wr old (old.length + 4) s) old.length (be4 n) = old ++ (be4 n ++ s) := by
  have h1 : wr old (old.length + 4) s = old ++ ([0, 0, 0, 0] ++ s) := by
    unfold wr
    rw [show old.length + 4 + s.length - old.length = 4 + s.length by omega, ← List.replicate_append_replicate, ← List.append_assoc]
    have hl : (old ++ List.replicate 4 (0 : UInt8)).length = old.length + 4 := by simp
    rw [← hl, lay_end, List.drop_of_length_le (by simp; omega)]
    simp
  rw [h1]
  unfold wr
  have hz : old.length + (be4 n).length - (old ++ ([0, 0, 0, 0] ++ s)).length = 0 := by simp [be4_length]
  rw [hz, List.replicate_zero, List.append_nil, lay_end, be4_length, List.append_assoc]
  congr 1
  congr 1
  rw [← List.append_assoc]
  exact List.drop_left' (by simp)

theorem layE_ents (cur : Nat → Bs) : ∀ (kk : List Int) (g : Nat → Bs) (q : Nat), (∀ k ∈ kk, 0 ≤ k) → layE (entsOf cur kk) g q = if (q : Int) ∈ kk then cur q else g q
  | [], g, q, _ => by simp [entsOf, layE]
  | k :: kk, g, q, h => by
    have ih := layE_ents cur kk (upd g k.toNat (cur k.toNat)) q (fun x hx => h x (by simp [hx]))
    have hk := h k (by simp)
    show layE (entsOf cur kk) (upd g k.toNat (cur k.toNat)) q = _
    rw [ih]
    by_cases e : (q : Int) ∈ kk
    · rw [if_pos e, if_pos (by simp [e])]
    · rw [if_neg e]
      by_cases e2 : (q : Int) = k
      · have : k.toNat = q := by omega
        rw [this, upd_same, if_pos (by simp [e2])]
      · rw [upd_other _ _ (by omega), if_neg (by simp [e, e2])]

/-- the disk bears it, and what is committed now. -/
theorem J.commit {f f' f'' : Nat → Bs} {K : Kept} {es : List Ent} {base' : Nat → Bs} (h : J f K) (h1 : f' 1 = f 1) (h0 : f' 0 = f 0 ++ (be4 (encE es).length ++ encE es)) (hw : WroteBut es f' f'' K.base) (hr : RecOk es) (hb : ∀ q, q < 4096 → base' q = layE es K.base q) :
    J f'' ⟨base', K.recs ++ [es]⟩ := by
  obtain ⟨j1, j2, j3⟩ := h
  refine ⟨?_, ?_, fun q hq => ?_⟩
  · rw [hw.1, h0, j1]
    show _ = encR ((K.recs ++ [es]).map encE)
    rw [List.map_append, encR_append]
    simp [encR]
  · intro r hr'
    rcases List.mem_append.1 hr' with h | h
    · exact j2 r h
    · rw [List.mem_singleton.1 h]; exact hr
  · show layE (K.recs ++ [es]).flatten (pg (f'' 1)) q = base' q
    rw [hb q hq]
    have e : (K.recs ++ [es]).flatten = K.recs.flatten ++ es := by simp
    rw [e, layE_append]
    by_cases ex : ∃ x ∈ es, x.1 = q
    · exact layE_some _ _ _ q ex
    · have hn : ∀ x ∈ es, x.1 ≠ q := fun x hx e => ex ⟨x, hx, e⟩
      rw [layE_other _ _ _ hn, layE_other _ _ _ hn]
      rcases layE_at K.recs.flatten q with h | h
      · rw [h _ (pg (f 1))]; exact j3 q hq
      · have h4 := j3 q hq
        rw [h] at h4 ⊢
        rcases hw.2 q hq hn with e | e
        · rw [e, h1]; exact h4
        · exact e

/-- a record was put on the log. -/
theorem PoolR.logged {C : Tag → Bool} {w w' : World} {T T' : Tags} {p d N nr nr' : Nat} {base : Nat → Bs} {f f' : Nat → Bs} (n most hand : Nat) (fr : Nat → Fr) (at' : Int → Option Nat) (hM : PoolM w T p d most n hand fr at') (hL : PoolL n most hand fr at' base (f 1) N nr none none)
    (hs : Step C w T w' T') (hc : ∀ t, isPoolM t = true → C t = false) (hD : DiskR w' T' d f' nr') (h1 : f' 1 = f 1) (hn : nr' = nr + 2) : PoolR w' T' p d base f' (N + 2) := by
  refine ⟨n, most, hand, fr, at', nr', hM.kept hs hc, hD, ?_⟩
  rw [h1, hn]
  exact { hL with cnt := by have := hL.cnt; omega }

/-- ending an action: its two words. -/
theorem abort_low (a s : Nat) (so : Array Value) (w : World) (hne : a ≠ s) (c0 : w.cell? ⟨a, 0, none⟩ = some (ptr s)) (k3 : w.cell? ⟨a, 3, none⟩ = some (.bool false)) (z3 : w.frozen? ⟨a, 3, none⟩ = false) (hs : w.heap[s]? = some (.cells so 57 (0, 0))) (hs2 : so.size = 4) :
    Calls Try.prog 13 #[ptr a] w fun e w' => e = .returned (.int .i64 0) ∧ w' = (w.setCell ⟨a, 3, none⟩ (.bool true)).setCell ⟨s, 2, none⟩ (.pointer none) := by
  have hgo := act_going a s false w c0 k3
  obtain ⟨v2, hv2⟩ : ∃ v, so[2]? = some v := ⟨_, Array.getElem?_eq_getElem (by omega)⟩
  have h2 : (w.setCell ⟨a, 3, none⟩ (.bool true)).cell? ⟨s, 2, none⟩ = some v2 := by
    rw [cell_at ((set_other hne).trans hs)]; exact hv2
  have y2' : (w.setCell ⟨a, 3, none⟩ (.bool true)).frozen? ⟨s, 2, none⟩ = false := froz_at ((set_other hne).trans hs)
  have j0 : (w.setCell ⟨a, 3, none⟩ (.bool true)).cell? ⟨a, 0, none⟩ = some (ptr s) := by
    rw [← c0]
    exact World.cell?_setCell_other w _ _ _ (by simp)
  clear hs hv2
  go_enter Try.func13, Try.ntmps13
  go_wp2_with (go_at_call 42; refine hgo.mono ?_; rintro e w' ⟨rfl, rfl⟩)
  go_ret
  exact ⟨rfl, rfl⟩

/-- what ending a finished action leaves. -/
theorem com_end (E : AEnv) (W : World) (TT : Tags) (fl : List Nat) (gone : Int → Bool) (K' : Kept) (f : Nat → Bs) (N : Nat) (hf : Fresh W TT) (hAc : ActM W TT E.a E.s E.pm E.gm false) (hSp : SpaceM W TT E.s E.l E.p E.m (ptr E.a)) (hg : FreeM W TT E.gm gone)
    (hl : LogR W TT E.l E.d (f 0).length K'.recs.length) (hp : PoolR W TT E.p E.d K'.base f N) (hj : J f K') (hM : Meta K'.base fl) (hG : GoneIs gone fl) :
    SpR (((W.setCell ⟨E.s, 3, none⟩ (.map (some E.gm))).setCell ⟨E.a, 3, none⟩ (.bool true)).setCell ⟨E.s, 2, none⟩ (.pointer none)) TT E.s E.d K' fl N ∧
      (TT E.a = .act ∧ (((W.setCell ⟨E.s, 3, none⟩ (.map (some E.gm))).setCell ⟨E.a, 3, none⟩ (.bool true)).setCell ⟨E.s, 2, none⟩ (.pointer none)).cell? ⟨E.a, 0, none⟩ = some (ptr E.s) ∧ (((W.setCell ⟨E.s, 3, none⟩ (.map (some E.gm))).setCell ⟨E.a, 3, none⟩ (.bool true)).setCell ⟨E.s, 2, none⟩ (.pointer none)).cell? ⟨E.a, 3, none⟩ = some (.bool true)) ∧
      Step isEnd W TT (((W.setCell ⟨E.s, 3, none⟩ (.map (some E.gm))).setCell ⟨E.a, 3, none⟩ (.bool true)).setCell ⟨E.s, 2, none⟩ (.pointer none)) TT := by
  have hne : E.a ≠ E.s := ne_of_tag hAc.1 hSp.1 (by simp)
  have s1 : Step isEnd W TT (W.setCell ⟨E.s, 3, none⟩ (.map (some E.gm))) TT := (Step.refl hf).setCell (by rw [hSp.1]; rfl)
  have s2 := s1.setCell (b := E.a) (o := 3) (v := .bool true) (by rw [hAc.1]; rfl)
  have s3 := s2.setCell (b := E.s) (o := 2) (v := .pointer none) (by rw [hSp.1]; rfl)
  have h1 : (W.setCell ⟨E.s, 3, none⟩ (.map (some E.gm))).heap[E.s]? = some (.cells #[ptr E.l, ptr E.p, ptr E.a, .map (some E.gm)] 57 (0, 0)) := set_same hSp.2
  have h2 : ((W.setCell ⟨E.s, 3, none⟩ (.map (some E.gm))).setCell ⟨E.a, 3, none⟩ (.bool true)).heap[E.s]? = some (.cells #[ptr E.l, ptr E.p, ptr E.a, .map (some E.gm)] 57 (0, 0)) := (set_other hne).trans h1
  have h3 : (((W.setCell ⟨E.s, 3, none⟩ (.map (some E.gm))).setCell ⟨E.a, 3, none⟩ (.bool true)).setCell ⟨E.s, 2, none⟩ (.pointer none)).heap[E.s]? = some (.cells #[ptr E.l, ptr E.p, .pointer none, .map (some E.gm)] 57 (0, 0)) := set_same h2
  have ha : (((W.setCell ⟨E.s, 3, none⟩ (.map (some E.gm))).setCell ⟨E.a, 3, none⟩ (.bool true)).setCell ⟨E.s, 2, none⟩ (.pointer none)).heap[E.a]? = some (.cells #[ptr E.s, .map (some E.pm), .map (some E.gm), .bool true] 47 (0, 0)) :=
    (set_other (fun e => hne e.symm)).trans (set_same ((set_other (fun e => hne e.symm)).trans hAc.2))
  exact ⟨⟨E.l, E.p, E.gm, f, gone, ⟨⟨hSp.1, h3⟩, hg.kept s3 rfl, hl.kept s3 rfl, hp.kept s3 (fun t ht => by cases t <;> first | rfl | cases ht), hj⟩, hM, hG⟩, ⟨hAc.1, by rw [cell_at ha]; rfl, by rw [cell_at ha]; rfl⟩, s3⟩

end Go.Proofs.Ytiolpfneppchnaa
