/- Own framework, part 24: regions whose order is open, and the program's. -/
import Derived.Test.YthglfhnlolefhaaGreatDoorAbsOrd2
set_option linter.unusedVariables false
set_option linter.unusedSimpArgs false
namespace Go.Abs
open Go.RowKit (Below)

theorem Lay.drew {ds : List Deferred} {nt : Nat} {w0 : World} {g0 : Gh} {T0 : List Nat} {s : St} {a : Act} {w : World} (h : Lay ds nt w0 g0 T0 s a w) : Lay ds nt w0 g0 T0 s a { w with drawn := w.drawn + 1 } := by
  obtain ⟨g, h1, h2, h3, h4, h5, h6⟩ := h
  have hb : Below w.heap.size w { w with drawn := w.drawn + 1 } := ⟨rfl, rfl, rfl, Nat.le_refl _, fun _ _ => rfl⟩
  have he := h2.ext_grown hb
  exact ⟨g, h1.trans he, h2.grown hb, h3.mono he, h4, h5, h6.trans ⟨rfl, rfl, rfl, Nat.le_refl _, fun _ _ => rfl⟩⟩

section
variable {P : Program} {orc : Orc} {call : CallF} {ops : Array Oper} {al : List AOper} {L : List Lab} {fin : St} {md : Region.Mode} {ds : List Deferred} {nt : Nat} {w0 : World} {g0 : Gh} {T0 : List Nat}

theorem any_sound (hAg : AgOk P) (hC : CallOk P call) (hO : OrcOk P orc) (hal : ∀ (i : Nat) (ao : AOper), al[i]? = some ao → ∃ o, ops[i]? = some o ∧ trOper P ops nt o = some ao) {Q : Exit → Act → World → Prop} (hq : QOk ds nt w0 g0 T0 Q (.nrm, fin)) :
    ∀ (fuel : Nat) (listed : Array Bool) (s : St) (a : Act) (w : World), Lay ds nt w0 g0 T0 s a w → anyA orc call md ops al L fin fuel listed s → wpAny P md ops Q fuel listed a w
  | 0, listed, s, a, w, hL, h => ⟨h.1, hq a w (h.2 ▸ hL)⟩
  | fuel + 1, listed, s, a, w, hL, h => by
    refine ⟨fun h0 => hq a w (h.1 h0 ▸ hL), fun i hi => ?_⟩
    obtain ⟨ao, l, s1, h1, h2, h3, h4⟩ := h.2 i hi
    obtain ⟨o, ho, hm⟩ := hal i ao h1
    unfold stepO at h3
    refine oper_ok hAg hC hO ho hm hL (fun hb a' w' hL' => ?_) (fun hb => by simp [hb] at h3) (fun hb => ?_)
    · rw [hb] at h3
      simp only [Option.some.injEq, Prod.mk.injEq] at h3
      obtain ⟨_, rfl⟩ := h3
      exact any_sound hAg hC hO hal hq fuel _ _ a' w' hL' h4
    · rw [hb] at h3
      simp only at h3
      cases ha : act orc s.e ao.op with
      | none => simp [ha] at h3
      | some ac =>
        simp only [ha] at h3
        split at h3
        · rename_i x V1 T1 l1 hd
          simp only [Option.some.injEq, Prod.mk.injEq] at h3
          obtain ⟨_, rfl⟩ := h3
          exact ⟨ac, _, l1, rfl, hd, fun a' w' hL' => any_sound hAg hC hO hal hq fuel _ _ a' w' hL' h4⟩
        · simp at h3

theorem edgesBack_spec (h : edgesBack ops = true) (j : Nat) (o : Oper) (ho : ops[j]? = some o) : ∀ e ∈ o.after, Region.binds .any e = true → e.on < j := by
  unfold edgesBack at h
  rw [List.all_eq_true] at h
  have h1 := h j (List.mem_range.2 (Array.getElem?_eq_some_iff.1 ho).1)
  rw [ho] at h1
  simp only [Option.map_some, Option.getD_some, Array.all_eq_true_iff_forall_mem, Bool.or_eq_true, Bool.not_eq_true', decide_eq_true_eq] at h1
  intro e he hb
  exact (h1 e he).resolve_left (by simp [hb])

theorem freePairs_mem {k j : Nat} {o : Oper} (hkj : k < j) (ho : ops[j]? = some o) (hno : ∀ e ∈ o.after, Region.binds .any e = true → e.on ≠ k) : (k, j) ∈ freePairs ops := by
  unfold freePairs
  rw [List.mem_flatMap]
  refine ⟨j, List.mem_range.2 (Array.getElem?_eq_some_iff.1 ho).1, ?_⟩
  rw [List.mem_map]
  refine ⟨k, ?_, rfl⟩
  rw [List.mem_filter]
  refine ⟨List.mem_range.2 hkj, ?_⟩
  rw [ho]
  simp only [Option.map_some, Option.getD_some, Bool.not_eq_true']
  rw [← Bool.not_eq_true, Array.any_eq_true']
  rintro ⟨e, he, hb⟩
  simp only [Bool.and_eq_true, beq_iff_eq] at hb
  exact hno e he hb.1 hb.2

theorem drw_ok (hAg : AgOk P) (hC : CallOk P call) (hO : OrcOk P orc) (hw : P.follows .mixedOrders = true) {id : Nat} (hm : mapO (trOper P ops nt) ops.toList = some al) (hback : edgesBack ops = true)
    (hap : (freePairs ops).all (fun (k, j) => (al.getD k default).apart (al.getD j default)) = true) {Q : Exit → Act → World → Prop} {s : St} {ls : List Lab} {a : Act} {w : World}
    (h : Lay ds nt w0 g0 T0 s a w) (hr : runDrw orc call al s = some (ls, fin)) (hcf : confAll ls (freePairs ops) = true) (hq : QOk ds nt w0 g0 T0 Q (.nrm, fin)) : (Code.region id ops true).wp P Q a w := by
  obtain ⟨h1, h2⟩ := mapO_ops hm
  refine wp_region_any hw (any_sound hAg hC hO h2 hq (L := ls) _ _ s a _ h.drew ?_)
  rw [← h1]
  refine any_lex h1 (edgesBack_spec hback) (fun k j o ok oj lk lj hkj ho hk hj hlk hlj hno => ?_) al 0 _ s ls (by simpa using h1) (fun j => by simp) (fun j => by simp) (by simpa using h1) (fun j hj => ?_) hr
  · have hmem := freePairs_mem hkj ho hno
    constructor
    · have := List.all_eq_true.1 hap _ hmem
      simpa [List.getD_eq_getElem?_getD, hk, hj] using this
    · unfold confAll at hcf
      have := List.all_eq_true.1 hcf _ hmem
      simpa only [hlk, hlj] using this
  · simp [Array.getD_eq_getD_getElem?, h1, hj]

theorem panO_spec {o : AOper} {s : St} {d : D} (h : panO orc call o s = some d) : guardD s.e o.g = some true ∧ ∃ ac V1 T1 l, act orc s.e o.op = some ac ∧ doAc call s.V s.T ac = some (.pan d V1 T1, l) := by
  unfold panO at h
  split at h
  · rename_i hg
    cases ha : act orc s.e o.op with
    | none => rw [ha] at h; simp at h
    | some a =>
      rw [ha] at h
      simp only [] at h
      split at h
      · rename_i x V1 T1 l1 hd
        simp only [Option.some.injEq] at h
        subst h
        exact ⟨hg, a, V1, T1, l1, rfl, hd⟩
      · simp at h
  · simp at h

theorem any_soundP {LO : List (Option Lab)} {j0 : Nat} {d : D} {s0 : St} (hAg : AgOk P) (hC : CallOk P call) (hO : OrcOk P orc) (hal : ∀ (i : Nat) (ao : AOper), al[i]? = some ao → ∃ o, ops[i]? = some o ∧ trOper P ops nt o = some ao) {Q : Exit → Act → World → Prop} (hq : QOk ds nt w0 g0 T0 Q (.pan d, s0)) :
    ∀ (fuel : Nat) (listed : Array Bool) (s : St) (a : Act) (w : World), Lay ds nt w0 g0 T0 s a w → anyP orc call md ops al LO j0 d fuel listed s → wpAny P md ops Q fuel listed a w
  | 0, listed, s, a, w, hL, h => h.elim
  | fuel + 1, listed, s, a, w, hL, h => by
    refine ⟨fun h0 => absurd h0 h.1, fun i hi => ?_⟩
    rcases h.2 i hi with ⟨_, ao, h1, h2⟩ | ⟨ao, l, s1, h1, h2, h3, h4⟩
    · obtain ⟨o, ho, hm⟩ := hal i ao h1
      obtain ⟨hg, ac, V1, T1, l1, ha, hd⟩ := panO_spec h2
      refine oper_ok hAg hC hO ho hm hL (fun hb => by rw [hg] at hb; simp at hb) (fun hb => by rw [hg] at hb; simp at hb) (fun _ => ⟨ac, _, l1, ha, hd, ?_⟩)
      intro a' w' v ⟨g, k1, k2, k3, k4, k5, k6, k7⟩
      exact hq a' w' v _ _ k5 ⟨g, k1, k2, k7, k6⟩
    · obtain ⟨o, ho, hm⟩ := hal i ao h1
      unfold stepO at h3
      refine oper_ok hAg hC hO ho hm hL (fun hb a' w' hL' => ?_) (fun hb => by simp [hb] at h3) (fun hb => ?_)
      · rw [hb] at h3
        simp only [Option.some.injEq, Prod.mk.injEq] at h3
        obtain ⟨_, rfl⟩ := h3
        exact any_soundP hAg hC hO hal hq fuel _ _ a' w' hL' h4
      · rw [hb] at h3
        simp only at h3
        cases ha : act orc s.e ao.op with
        | none => simp [ha] at h3
        | some ac =>
          simp only [ha] at h3
          split at h3
          · rename_i x V1 T1 l1 hd
            simp only [Option.some.injEq, Prod.mk.injEq] at h3
            obtain ⟨_, rfl⟩ := h3
            exact ⟨ac, _, l1, rfl, hd, fun a' w' hL' => any_soundP hAg hC hO hal hq fuel _ _ a' w' hL' h4⟩
          · simp at h3

theorem freePairs_not {k j : Nat} {o : Oper} (h : (k, j) ∈ freePairs ops) (ho : ops[j]? = some o) : ∀ e ∈ o.after, Region.binds .any e = true → e.on ≠ k := by
  unfold freePairs at h
  rw [List.mem_flatMap] at h
  obtain ⟨j', _, h⟩ := h
  rw [List.mem_map] at h
  obtain ⟨k', h, e⟩ := h
  simp only [Prod.mk.injEq] at e
  obtain ⟨rfl, rfl⟩ := e
  rw [List.mem_filter] at h
  have h2 := h.2
  rw [ho] at h2
  simp only [Option.map_some, Option.getD_some, Bool.not_eq_true'] at h2
  rw [← Bool.not_eq_true, Array.any_eq_true'] at h2
  intro e he hb heq
  exact h2 ⟨e, he, by simp [hb, heq]⟩

theorem drw_okP (hAg : AgOk P) (hC : CallOk P call) (hO : OrcOk P orc) (hw : P.follows .mixedOrders = true) {id : Nat} (hm : mapO (trOper P ops nt) ops.toList = some al) (hback : edgesBack ops = true)
    (hap : (freePairs ops).all (fun (k, j) => (al.getD k default).apart (al.getD j default)) = true) {Q : Exit → Act → World → Prop} {s s0 : St} {a : Act} {w : World} {d : D}
    (h : Lay ds nt w0 g0 T0 s a w) (hr : runPan orc call (freePairs ops) al s = some d) (hq : QOk ds nt w0 g0 T0 Q (.pan d, s0)) : (Code.region id ops true).wp P Q a w := by
  obtain ⟨h1, h2⟩ := mapO_ops hm
  unfold runPan at hr
  cases ha : panAt orc call al s with
  | none => rw [ha] at hr; simp at hr
  | some j0 =>
  rw [ha] at hr
  simp only [] at hr
  cases ho : al[j0]? with
  | none => rw [ho] at hr; simp at hr
  | some oj0 =>
  rw [ho] at hr
  simp only [] at hr
  cases hw2 : runPanW orc call (freePairs ops) j0 0 al [] s with
  | none => rw [hw2] at hr; simp at hr
  | some x =>
  obtain ⟨ls, fin⟩ := x
  rw [hw2] at hr
  simp only [] at hr
  split at hr
  case isFalse => simp at hr
  rename_i hcf
  obtain ⟨r1, r2, r3, r4⟩ := runPanW_spec al 0 [] s fin ls hw2
  simp only [Nat.zero_add] at r3 r4
  have hj0lt : j0 < ls.length := by rw [r2]; exact (List.getElem?_eq_some_iff.1 ho).1
  have hj0L : ls[j0]? = some none := by
    obtain ⟨y, hy⟩ : ∃ y, ls[j0]? = some y := ⟨_, List.getElem?_eq_getElem hj0lt⟩
    cases y with
    | none => exact hy
    | some l => exact absurd rfl (r4 j0 l hy).1
  have apt : ∀ (k j : Nat) (ok oj : AOper), (k, j) ∈ freePairs ops → al[k]? = some ok → al[j]? = some oj → ok.apart oj = true := fun k j ok oj hmem hk hj => by
    have := List.all_eq_true.1 hap _ hmem
    simpa [List.getD_eq_getElem?_getD, hk, hj] using this
  have nonew : ∀ m, m < j0 → ∀ y, ls[m]? = some y → ∃ l, y = some l := fun m => by
    induction m using Nat.strongRecOn with
    | _ m ih =>
      intro hm y hy
      cases y with
      | some l => exact ⟨l, rfl⟩
      | none =>
        exfalso
        rcases r3 m hy with h5 | ⟨k, h5, h6⟩
        · omega
        · rcases h5 with h5 | ⟨q, h7, h8, h9⟩
          · simp at h5
          · obtain ⟨l, hl⟩ := ih q h7 (by omega) none h9
            simp at hl
  have hlen : ls.length = ops.size := by rw [r2, h1]
  refine wp_region_any hw (any_soundP hAg hC hO h2 hq (LO := ls) (j0 := j0) _ _ s a _ h.drew ?_)
  have key := any_lexP (orc := orc) (call := call) (ops := ops) (al := al) (L := ls) (fin := fin) (md := .any) (j0 := j0) (d := d) h1 hlen (edgesBack_spec hback)
    (fun k j o ok oj lk lj hkj ho' hk hj hlk hlj hno => ?_) (fun k l o ok oj hk hlk ho' hoj hno t ht => ?_) (fun j o ho' hn hne => ?_) (fun j l hl o ho' e he hb => ?_) hj0L (fun o ho' e he hb => ?_) ⟨oj0, ho, hr⟩
    al 0 ((Array.replicate ops.size false)) s ls (by simpa using h1) (fun j => by simp) (fun j => by simp) (by simp) (fun j hj => by simp [Array.getD_eq_getD_getElem?, hj]) r1
  · rw [if_neg (by omega), h1] at key
    exact key
  · have hmem := freePairs_mem hkj ho' hno
    refine ⟨apt k j ok oj hmem hk hj, ?_⟩
    unfold confAllO at hcf
    have := List.all_eq_true.1 hcf _ hmem
    simpa only [hlk, hlj] using this
  · have hkn : k ≠ j0 := fun e => by rw [e, hj0L] at hlk; simp at hlk
    by_cases hlt : k < j0
    · exact (apart_spec (apt k j0 ok oj (freePairs_mem hlt ho' hno) hk hoj)).1 t ht
    · have := (r4 k l hlk).2.2 j0 (by omega) hj0L
      exact (apart_spec (apt j0 k oj ok (by simpa using this) hoj hk)).2.2 t ht
  · rcases r3 j hn with h5 | ⟨k, h5, h6⟩
    · exact absurd h5 hne
    · rcases h5 with h5 | ⟨q, h7, h8, h9⟩
      · simp at h5
      · subst h8
        apply Classical.byContradiction
        intro hno
        have : (k, j) ∈ freePairs ops := freePairs_mem h7 ho' fun e he hb heq => hno ⟨e, he, hb, by rw [heq]; exact h9⟩
        rw [Bool.eq_false_iff] at h6
        exact h6 (by simpa using this)
  · have h3 := edgesBack_spec hback j o ho' e he hb
    have hjl : j < ls.length := (List.getElem?_eq_some_iff.1 hl).1
    obtain ⟨y, hy⟩ : ∃ y, ls[e.on]? = some y := ⟨_, List.getElem?_eq_getElem (by omega)⟩
    cases y with
    | some l' => exact ⟨l', hy⟩
    | none =>
      have := (r4 j l hl).2.2 e.on h3 hy
      exact absurd rfl (freePairs_not (by simpa using this) ho' e he hb)
  · have h3 := edgesBack_spec hback j0 o ho' e he hb
    obtain ⟨y, hy⟩ : ∃ y, ls[e.on]? = some y := ⟨_, List.getElem?_eq_getElem (by omega)⟩
    obtain ⟨l, rfl⟩ := nonew _ h3 y hy
    exact ⟨l, hy⟩

theorem execDrw_ok (hAg : AgOk P) (hC : CallOk P call) (hO : OrcOk P orc) (hw : P.follows .mixedOrders = true) {id : Nat} (hm : mapO (trOper P ops nt) ops.toList = some al) (hback : edgesBack ops = true)
    (hap : (freePairs ops).all (fun (k, j) => (al.getD k default).apart (al.getD j default)) = true) {Q : Exit → Act → World → Prop} {s : St} {a : Act} {w : World} {r : Out × St}
    (h : Lay ds nt w0 g0 T0 s a w) (hr : execDrw orc call al (freePairs ops) s = some r) (hq : QOk ds nt w0 g0 T0 Q r) : (Code.region id ops true).wp P Q a w := by
  unfold execDrw at hr
  split at hr
  · rename_i ls s' hd
    split at hr
    · rename_i hcf
      simp only [Option.some.injEq] at hr
      subst hr
      exact drw_ok hAg hC hO hw hm hback hap h hd hcf hq
    · simp at hr
  · split at hr
    · rename_i d hp
      simp only [Option.some.injEq] at hr
      subst hr
      exact drw_okP hAg hC hO hw hm hback hap h hp hq
    · simp at hr
end
end Go.Abs
