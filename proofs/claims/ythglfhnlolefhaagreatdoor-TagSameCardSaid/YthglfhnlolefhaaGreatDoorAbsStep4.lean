/- Own framework, part 8: indexes, slices, conversions, the greater and the smaller, loads of what never turns. -/
import Derived.Test.YthglfhnlolefhaaGreatDoorAbsStep3
import Derived.Laws.BytesArg
set_option linter.unusedVariables false
set_option linter.unusedSimpArgs false
namespace Go.Abs
open Go.RowKit (Below)

section
variable {P : Program} {w : World} {g : Gh} {V : List VO} {T : List Nat} {a : Act} {e : Env} {o : Oper}

theorem bytes_get (s : ByteArray) (i : Nat) : s[i]? = s.data[i]? := by
  by_cases h : i < s.size
  · rw [getElem?_pos s i h, getElem?_pos s.data i h]
    rfl
  · rw [getElem?_neg s i h, getElem?_neg s.data i h]
theorem yl_idx {t : TypeId} {k : SK} {ag : Bool} {x i : Operand} {x' i' : Opd} {d : D} (hop : o.op = .index t x i) (hk : skOf P t = some k) (hag : ∀ n et, P.underlying t = some (.array n et) → aggT P et = some ag) (hx : opd x = some x') (hi : opd i = some i') (he : EnvOk w g T a.tmps e)
    (hd : idxD ag k (ev e x') (ev e i') = some d) : Yl P w g T a o d := by
  have h1 := opd_rep he hx
  have h2 := opd_rep he hi
  unfold idxD at hd
  cases hn : asI (ev e i') with
  | none => simp [hn] at hd
  | some n =>
    obtain ⟨ik, h3⟩ := asI_rep h2 hn
    simp only [hn] at hd
    split at hd
    · rename_i m esz cs hv
      obtain ⟨et, hu, hs, hz⟩ := sk_arr hk
      split at hd
      · rename_i hb
        rw [hv] at h1
        obtain ⟨vs, hxe, hl, hone⟩ := rep_ag h1
        obtain ⟨v, hrun, hrep⟩ := part_run (P := P) (w := w) (hag _ _ hu) hs hl hone hd
        refine ⟨v, ?_, hrep⟩
        simp [execOp, hop, Instr.index, h3, asIntOf, hxe, underlying_run hu, hb, sizeT_run hs, hrun]
      · simp at hd
    · rename_i s hv
      have hu := sk_str hk
      split at hd
      · rename_i hb
        rw [hv] at h1
        cases hg : s.data.toList[n.toNat]? with
        | none => simp [hg] at hd
        | some b =>
          simp only [hg, Option.some.injEq] at hd
          subst hd
          refine ⟨.int .u8 b.toNat, ?_, sc_rep rfl⟩
          have hg' : s.data[n.toNat]? = some b := by rw [← Array.getElem?_toList]; exact hg
          simp [execOp, hop, Instr.index, h3, asIntOf, rep_sc h1, underlying_run hu, hb, bytes_get, hg']
      · simp at hd
    · simp at hd

/-! ### slices -/
theorem bound_run {v : Value} {d : D} {n : Int} {y : Nat} {c : BoundsCode} (h : RepD w g T v d) (hd : asI d = some n) (hb : 0 ≤ n ∧ n ≤ (y : Int)) : (Instr.sliceBound v y c).run P w = .ok n.toNat w := by
  obtain ⟨k, rfl⟩ := asI_rep h hd
  simp [Instr.sliceBound, asIntOf, hb]
theorem bnd_some {o : Option Opd} {dflt y r : Nat} (h : bnd e o dflt y = some r) : (o = none ∧ r = dflt) ∨ ∃ x n, o = some x ∧ asI (ev e x) = some n ∧ 0 ≤ n ∧ n ≤ (y : Int) ∧ r = n.toNat := by
  unfold bnd at h
  split at h
  · simp only [Option.some.injEq] at h; exact .inl ⟨rfl, h.symm⟩
  · rename_i x
    split at h
    · rename_i n hn
      split at h
      · rename_i hb
        simp only [Option.some.injEq] at h
        exact .inr ⟨x, n, rfl, hn, hb.1, hb.2, h.symm⟩
      · simp at h
    · simp at h
/-- What stands for a bound in the program and in what it was turned into. -/
def OptOpd (x : Option Operand) (y : Option Opd) : Prop := (x = none ∧ y = none) ∨ ∃ p q, x = some p ∧ y = some q ∧ opd p = some q
theorem bounds_run {isS : Bool} {len cap n h l : Nat} {lo hi : Option Operand} {lo' hi' : Option Opd} (hlo : OptOpd lo lo') (hhi : OptOpd hi hi') (he : EnvOk w g T a.tmps e) (hn : n = len) (hc : len ≤ cap) (h1 : bnd e hi' n n = some h) (h2 : bnd e lo' 0 h = some l) :
    (Instr.sliceBounds isS len cap (lo.map a.eval) (hi.map a.eval) none).run P w = .ok (l, h, cap) w ∧ l ≤ h ∧ h ≤ n := by
  subst hn
  have hh : (hi = none ∧ h = n) ∨ ∃ p, hi = some p ∧ h ≤ n ∧ ∀ c, (Instr.sliceBound (a.eval p) cap c).run P w = .ok h w := by
    rcases bnd_some h1 with ⟨rfl, rfl⟩ | ⟨x, k, rfl, hk, h0, hle, rfl⟩
    · rcases hhi with ⟨rfl, _⟩ | ⟨p, q, rfl, hq, _⟩
      · exact .inl ⟨rfl, rfl⟩
      · cases hq
    · rcases hhi with ⟨_, hq⟩ | ⟨p, q, rfl, hq, hpq⟩
      · cases hq
      · cases hq
        exact .inr ⟨p, rfl, by omega, fun c => bound_run (opd_rep he hpq) hk ⟨h0, by omega⟩⟩
  have hl : (lo = none ∧ l = 0) ∨ ∃ p, lo = some p ∧ l ≤ h ∧ ∀ c, (Instr.sliceBound (a.eval p) h c).run P w = .ok l w := by
    rcases bnd_some h2 with ⟨rfl, rfl⟩ | ⟨x, k, rfl, hk, h0, hle, rfl⟩
    · rcases hlo with ⟨rfl, _⟩ | ⟨p, q, rfl, hq, _⟩
      · exact .inl ⟨rfl, rfl⟩
      · cases hq
    · rcases hlo with ⟨_, hq⟩ | ⟨p, q, rfl, hq, hpq⟩
      · cases hq
      · cases hq
        exact .inr ⟨p, rfl, by omega, fun c => bound_run (opd_rep he hpq) hk ⟨h0, hle⟩⟩
  unfold Instr.sliceBounds
  rcases hh with ⟨rfl, rfl⟩ | ⟨p, rfl, hp, hpr⟩ <;> rcases hl with ⟨rfl, rfl⟩ | ⟨q, rfl, hq, hqr⟩
  · exact ⟨by simp, Nat.zero_le _, Nat.le_refl _⟩
  · exact ⟨by simp [hqr], hq, Nat.le_refl _⟩
  · exact ⟨by simp [hpr], Nat.zero_le _, hp⟩
  · exact ⟨by simp [hpr, hqr], hq, hp⟩
theorem yl_slc_str {t : TypeId} {x : Operand} {x' : Opd} {lo hi : Option Operand} {lo' hi' : Option Opd} {s : ByteArray} {h l : Nat} (hop : o.op = .slice t x lo hi none) (hk : skOf P t = some .str) (hx : opd x = some x') (hlo : OptOpd lo lo') (hhi : OptOpd hi hi') (he : EnvOk w g T a.tmps e)
    (hv : ev e x' = .c (.v (.string s))) (h1 : bnd e hi' s.size s.size = some h) (h2 : bnd e lo' 0 h = some l) : Yl P w g T a o (.c (.v (.string (s.extract l h)))) := by
  have hr := opd_rep he hx
  rw [hv] at hr
  have hu := sk_str hk
  obtain ⟨hb, _, _⟩ := bounds_run (P := P) (w := w) (g := g) (T := T) (isS := false) hlo hhi he rfl (Nat.le_refl _) h1 h2
  refine ⟨_, ?_, sc_rep rfl⟩
  simp [execOp, hop, Instr.sliceAt, Instr.slice, underlying_run hu, rep_sc hr, hb]
theorem yl_slc_sl {t : TypeId} {x : Operand} {x' : Opd} {lo hi : Option Operand} {lo' hi' : Option Opd} {n esz : Nat} {cs : List Go.Abs.P} {h l : Nat} (hop : o.op = .slice t x lo hi none) (hk : skOf P t = some (.sl esz)) (hx : opd x = some x') (hlo : OptOpd lo lo') (hhi : OptOpd hi hi') (he : EnvOk w g T a.tmps e)
    (hv : (ev e x').slc = some (n, cs)) (h1 : bnd e hi' n n = some h) (h2 : bnd e lo' 0 h = some l) : Yl P w g T a o (.c (.sl (h - l) ((cs.drop (l * esz)).take ((h - l) * esz)))) := by
  have hr := slc_rep (opd_rep he hx) hv
  obtain ⟨et, hu, hs, hz⟩ := sk_sl hk
  rcases hr with ⟨hr, rfl, rfl⟩ | ⟨ad, cap, us, hr, hle, hc, hrep⟩
  · obtain ⟨hb, hlh, hhn⟩ := bounds_run (P := P) (w := w) (g := g) (T := T) (isS := true) (cap := 0) hlo hhi he rfl (Nat.le_refl _) h1 h2
    obtain rfl : h = 0 := by omega
    obtain rfl : l = 0 := by omega
    refine ⟨.slice none 0 0, ?_, .c (by simpa using RepP.nil)⟩
    simp [execOp, hop, Instr.sliceAt, Instr.slice, underlying_run hu, hr, hb, sizeT_run hs]
  · obtain ⟨hb, hlh, hhn⟩ := bounds_run (P := P) (w := w) (g := g) (T := T) (isS := true) hlo hhi he rfl hle h1 h2
    by_cases hcl : cap = l
    · subst hcl
      refine ⟨.slice (some ad) (h - cap) (cap - cap), ?_, .c (.sl (us := us) (by omega) ?_ ?_)⟩
      · simp [execOp, hop, Instr.sliceAt, Instr.slice, underlying_run hu, hr, hb, sizeT_run hs]
      · have : h - cap = 0 := by omega
        simp only [this, Nat.zero_mul, List.take_zero, List.length_nil]
        exact ⟨fun i hi => absurd hi (Nat.not_lt_zero i), fun i hi => absurd hi (Nat.not_lt_zero i)⟩
      · have : h - cap = 0 := by omega
        simp only [this, Nat.zero_mul, List.take_zero, List.length_nil]
        exact fun i hi => absurd hi (Nat.not_lt_zero i)
    · refine ⟨.slice (some (ad.add (l * esz))) (h - l) (cap - l), ?_, .c (.sl (by omega) ((hc.drop (l * esz)).take ((h - l) * esz)) (rep_take (rep_drop hrep _) _))⟩
      simp [execOp, hop, Instr.sliceAt, Instr.slice, underlying_run hu, hr, hb, sizeT_run hs, hcl]
theorem zero_run {x : Option Operand} {x' : Option Opd} (hx : OptOpd x x') (he : EnvOk w g T a.tmps e) (hz : zeroO e x' = true) : ∃ p, x = some p ∧ ∀ y c, (Instr.sliceBound (a.eval p) y c).run P w = .ok 0 w := by
  rcases hx with ⟨_, rfl⟩ | ⟨p, q, rfl, rfl, hpq⟩
  · simp [zeroO] at hz
  · simp only [zeroO, beq_iff_eq] at hz
    exact ⟨p, rfl, fun y c => bound_run (n := 0) (opd_rep he hpq) hz ⟨by omega, by omega⟩⟩
theorem yl_slc_cap {t : TypeId} {x : Operand} {x' : Opd} {lo hi mx : Option Operand} {lo' hi' mx' : Option Opd} {n esz : Nat} {cs : List Go.Abs.P} (hop : o.op = .slice t x lo hi mx) (hk : skOf P t = some (.sl esz)) (hx : opd x = some x') (hlo : OptOpd lo lo') (hhi : OptOpd hi hi') (hmx : OptOpd mx mx') (he : EnvOk w g T a.tmps e)
    (hv : (ev e x').slc = some (n, cs)) (h1 : zeroO e lo' = true) (h2 : zeroO e hi' = true) (h3 : zeroO e mx' = true) : Yl P w g T a o (.fs 0 []) := by
  have hr := slc_rep (opd_rep he hx) hv
  obtain ⟨et, hu, hs, hz⟩ := sk_sl hk
  obtain ⟨l, rfl, hl⟩ := zero_run (P := P) (w := w) hlo he h1
  obtain ⟨h, rfl, hh⟩ := zero_run (P := P) (w := w) hhi he h2
  obtain ⟨m, rfl, hm⟩ := zero_run (P := P) (w := w) hmx he h3
  have hb : ∀ len cap, (Instr.sliceBounds true len cap (some (a.eval l)) (some (a.eval h)) (some (a.eval m))).run P w = .ok (0, 0, 0) w := fun len cap => by
    simp [Instr.sliceBounds, hl, hh, hm]
  rcases hr with ⟨hr, rfl, rfl⟩ | ⟨ad, cap, us, hr, hle, hc, hrep⟩
  · exact ⟨.slice none 0 0, by simp [execOp, hop, Instr.sliceAt, Instr.slice, underlying_run hu, hr, hb, sizeT_run hs], .fsnil⟩
  · refine ⟨.slice (some ad) 0 0, by simp [execOp, hop, Instr.sliceAt, Instr.slice, underlying_run hu, hr, hb, sizeT_run hs], .fs (us := us) (fun h => absurd rfl h) ⟨fun i hi => absurd hi (Nat.not_lt_zero i), fun i hi => absurd hi (Nat.not_lt_zero i)⟩ fun i hi => absurd hi (Nat.not_lt_zero i)⟩
/-! ### conversions -/
theorem yl_conv_int {src dst : TypeId} {x : Operand} {x' : Opd} {k k' k'' : IntKind} {n : Int} (hop : o.op = .convert src dst x) (hs : P.underlying src = some (.int k')) (hd : P.underlying dst = some (.int k)) (hx : opd x = some x') (he : EnvOk w g T a.tmps e)
    (hv : ev e x' = .c (.v (.int k'' n))) : Yl P w g T a o (.c (.v (.int k (k.wrap n)))) := by
  have h1 := opd_rep he hx
  rw [hv] at h1
  exact ⟨_, by simp [execOp, hop, convert, underlying_run hs, underlying_run hd, rep_sc h1, Conv.intToInt], sc_rep rfl⟩
theorem yl_conv_flt {src dst : TypeId} {x : Operand} {x' : Opd} {k : FloatKind} {k' k'' : IntKind} {n : Int} (hop : o.op = .convert src dst x) (hs : P.underlying src = some (.int k')) (hd : P.underlying dst = some (.float k)) (hx : opd x = some x') (he : EnvOk w g T a.tmps e)
    (hv : ev e x' = .c (.v (.int k'' n))) : Yl P w g T a o (.c (.v (.float k (k.nearest n)))) := by
  have h1 := opd_rep he hx
  rw [hv] at h1
  exact ⟨_, by simp [execOp, hop, convert, underlying_run hs, underlying_run hd, rep_sc h1, Conv.intToFloat], sc_rep rfl⟩
theorem yl_conv_id {src dst : TypeId} {x : Operand} {x' : Opd} {s : ByteArray} (hop : o.op = .convert src dst x) (hs : P.underlying src = some .string) (hd : P.underlying dst = some .string) (hx : opd x = some x') (he : EnvOk w g T a.tmps e)
    (hv : ev e x' = .c (.v (.string s))) : Yl P w g T a o (.c (.v (.string s))) := by
  have h1 := opd_rep he hx
  rw [hv] at h1
  exact ⟨_, by simp [execOp, hop, convert, underlying_run hs, underlying_run hd, rep_sc h1], sc_rep rfl⟩
theorem unBytes_cells {I : Nat → Nat → Prop} {cs : List Go.Abs.P} {l : List UInt8} {us : Nat → Value} (h : unBytes cs = some l) (hr : ∀ i (hi : i < cs.length), RepP w I (us i) cs[i]) :
    ∃ xs : List Int, xs.length = cs.length ∧ (∀ i, i < cs.length → us i = .int .u8 (xs.getD i 0)) ∧ strOfNums xs = ⟨l.toArray⟩ := by
  induction cs generalizing l us with
  | nil =>
    simp only [unBytes, mapO, Option.some.injEq] at h
    subst h
    exact ⟨[], rfl, fun i hi => absurd hi (Nat.not_lt_zero i), rfl⟩
  | cons c cs ih =>
    simp only [unBytes, mapO] at h
    cases hc : unByte c with
    | none => simp [hc] at h
    | some b =>
      simp only [hc] at h
      cases hm : mapO unByte cs with
      | none => simp [hm] at h
      | some l' =>
        simp only [hm, Option.some.injEq] at h
        subst h
        obtain ⟨xs, h1, h2, h3⟩ := ih (l := l') (us := fun i => us (i + 1)) hm (fun i hi => hr (i + 1) (by simpa using hi))
        unfold unByte at hc
        split at hc
        · rename_i n
          simp only [Option.some.injEq] at hc
          subst hc
          have h0 := hr 0 (by simp)
          have e0 : us 0 = .int .u8 n := (repP_v h0).1
          refine ⟨n :: xs, by simp [h1], fun i hi => ?_, ?_⟩
          · cases i with
            | zero => simpa using e0
            | succ i => have := h2 i (by simpa using hi); simpa using this
          · have h3' := congrArg (fun b : ByteArray => b.data.toList) h3
            simp only [strOfNums, List.map_cons] at h3' ⊢
            rw [h3']
        · simp at hc
theorem yl_conv_b2s {src dst et : TypeId} {x : Operand} {x' : Opd} {n : Nat} {cs : List Go.Abs.P} {l : List UInt8} (hop : o.op = .convert src dst x) (hs : P.underlying src = some (.slice et)) (hse : P.underlying et = some (.int .u8)) (hd : P.underlying dst = some .string) (hx : opd x = some x') (he : EnvOk w g T a.tmps e)
    (hv : (ev e x').slc = some (n, cs)) (hl : cs.length = n) (hb : unBytes cs = some l) : Yl P w g T a o (.c (.v (.string ⟨l.toArray⟩))) := by
  have hr := slc_rep (opd_rep he hx) hv
  rcases hr with ⟨hr, rfl, rfl⟩ | ⟨ad, cap, us, hr, hle, hc, hrep⟩
  · simp only [unBytes, mapO, Option.some.injEq] at hb
    subst hb
    refine ⟨_, ?_, sc_rep rfl⟩
    have h1 := run_convert_bytes_nil (P := P) w src et hs hse 0 0 dst hd
    simp only [execOp, hop, hr, Sem.run_bind, h1, Result.andThen_ok, Sem.run_pure]
    rfl
  · obtain ⟨xs, h1, h2, h3⟩ := unBytes_cells hb hrep
    have hld : (loadCells ad n).run P w = .ok (xs.map (Value.int .u8)).toArray w := by
      have := run_loadCells_list (P := P) w ad (xs.map (Value.int .u8)) (fun j v hj => by
        have hjl : j < xs.length := by
          have := (List.getElem?_eq_some_iff.1 hj).1
          simpa using this
        rw [hc.cell j (by omega), h2 j (by omega)]
        simp [List.getElem?_eq_getElem hjl] at hj
        simp [hj, List.getElem?_eq_getElem hjl])
      simpa [h1, hl] using this
    refine ⟨.string (strOfNums xs), ?_, by rw [h3]; exact sc_rep rfl⟩
    have h4 := run_convert_bytes_string w src dst et (some ad) n cap hs hse hd
    simp only [execOp, hop, hr, Sem.run_bind]
    rw [h4, run_bytesToString w _ n cap xs hld, foldl_push_bytes]
    simp [strOfNums, ByteArray.empty, ByteArray.emptyWithCapacity]
    rfl
/-! ### loads of what never turns -/
theorem mkV_map {ag : Bool} {cs : List Go.Abs.P} {d : D} (h : mkV ag (cs.map .c) = some d) : (ag = true ∧ d = .ag (cs.map .c)) ∨ (ag = false ∧ ∃ p, cs = [p] ∧ d = .c p) := by
  unfold mkV at h
  split at h
  · rename_i x hx
    cases ag with
    | true => simp only [if_true, Option.some.injEq] at h; exact .inl ⟨rfl, by rw [← h, hx]⟩
    | false =>
      simp only [Bool.false_eq_true, if_false, Option.some.injEq] at h
      obtain ⟨p, rfl, hp⟩ : ∃ p, cs = [p] ∧ D.c p = x := by
        cases cs with
        | nil => simp at hx
        | cons p r => cases r with
          | nil => simp at hx; exact ⟨p, rfl, hx⟩
          | cons q r => simp at hx
      exact .inr ⟨rfl, p, rfl, by rw [← h, ← hp]⟩
  · cases ag with
    | true => simp only [if_true, Option.some.injEq] at h; exact .inl ⟨rfl, h.symm⟩
    | false => simp at h
theorem loadVar_run {t : TypeId} {ag : Bool} {sz : Nat} {ad : Addr} {us : Nat → Value} (ha : aggT P t = some ag) (hs : sizeT P t = some sz) (hc : ∀ i, i < sz → w.cell? (ad.add i) = some (us i)) (h1 : ag = false → sz = 1) :
    (loadVar t ad).run P w = .ok (if ag then .agg ((List.range sz).map us).toArray else us 0) w := by
  unfold loadVar
  simp only [Sem.run_bind, aggT_run ha, Result.andThen_ok]
  cases ag with
  | true => simp [sizeT_run hs, run_loadCells w ad sz us hc]
  | false =>
    have := hc 0 (by rw [h1 rfl]; omega)
    rw [Addr.add_zero'] at this
    simp [this]
theorem yl_load_ip {t : TypeId} {x : Operand} {x' : Opd} {ag : Bool} {sz : Nat} {cs : List Go.Abs.P} {d : D} (hop : o.op = .load t x) (ha : aggT P t = some ag) (hs : sizeT P t = some sz) (hx : opd x = some x') (he : EnvOk w g T a.tmps e)
    (hv : ev e x' = .ip cs) (hle : sz ≤ cs.length) (hd : mkV ag ((cs.take sz).map .c) = some d) : Yl P w g T a o d := by
  have h1 := opd_rep he hx
  rw [hv] at h1
  obtain ⟨ad, us, hxe, hc, hr⟩ := rep_ip h1
  rcases mkV_map hd with ⟨rfl, rfl⟩ | ⟨rfl, p, hp, rfl⟩
  · have hrun := loadVar_run (P := P) (w := w) (ag := true) ha hs (fun i hi => hc.cell i (by omega)) (by simp)
    refine ⟨.agg ((List.range sz).map us).toArray, by simp [execOp, hop, hxe, Instr.loadAt, Instr.sureAddr, hrun], ?_⟩
    refine .ag (by simp; omega) (fun i hi => by simp [D.one]) (fun i hi => ?_)
    simp at hi
    have := hr i (by omega)
    simp only [List.getElem_map, List.getElem_take]
    refine .c ?_
    have hlt : i < sz := by omega
    simpa [Array.getD_eq_getD_getElem?, hlt] using this
  · have hsz : sz = 1 := by
      have := congrArg List.length hp
      simp at this; omega
    have hrun := loadVar_run (P := P) (w := w) (ag := false) ha hs (fun i hi => hc.cell i (by omega)) (fun _ => hsz)
    refine ⟨us 0, by simp [execOp, hop, hxe, Instr.loadAt, Instr.sureAddr, hrun], .c ?_⟩
    have h0 := hr 0 (by omega)
    have e0 : cs[0]? = some p := by
      have : (cs.take sz)[0]? = some p := by rw [hp]; rfl
      rw [List.getElem?_take] at this
      split at this
      · exact this
      · simp at this
    rw [List.getElem?_eq_getElem (show 0 < cs.length by omega)] at e0
    rw [Option.some.inj e0] at h0
    exact h0
end
end Go.Abs
