/- Sy: strings.Builder's Grow, as a contract: a new buffer of whatever bytes, none of them written yet. -/
import Derived.Test.YtbigcojlpcchiaaGreatSyGrx
namespace Go.Proofs.YtbigcojlpcchiaaGreat.Sy
open Go Go.RowKit
set_option linter.unusedVariables false
set_option linter.unusedSimpArgs false
set_option maxRecDepth 10000
set_option maxHeartbeats 4000000
abbrev anyO : Ob := ⟨5, 1, [[.any1]], .cells⟩
theorem grow_call {n : Nat} (h0 : 0 < n) (hn : n ≤ 140737488355328) : CallOk Tryz.prog 134 [.ref 0 2 0 0, .val (.int .i64 n)] [(0, bldO (.ref 0 2 0 0) (.val (.slice none 0 0)))] (.tup []) [(0, bldO (.ref 0 2 0 0) (.sl 1 1 0 0)), (1, anyO)] := by
  refine ⟨enters_134, fun C vs hargs hob hsub hsm => ?_⟩
  obtain ⟨v1, v2, rfl, hv1, hv2⟩ : ∃ v1 v2, vs = [v1, v2] ∧ Re C (.ref 0 2 0 0) v1 ∧ Re C (.val (.int .i64 n)) v2 := by
    match vs, hargs with
    | [v1, v2], h => exact ⟨v1, v2, rfl, h.head.1, h.head.2.head.1⟩
    | [], h => exact absurd h.1 (by simp)
    | [_], h => exact absurd h.1 (by simp)
    | _ :: _ :: _ :: _, h => exact absurd h.1 (by simp)
  obtain ⟨b, hb, rfl⟩ := ref_re hv1
  cases hv2
  obtain ⟨cur, u, v, hS, hc, hsz, c0, c1, hu, hx⟩ := bld_at (hob.obs 0 _ rfl) hb
  cases hx
  obtain ⟨b', hb', rfl⟩ := ref_re hu
  rw [hb] at hb'; cases hb'
  have hlt := (Array.getElem?_eq_some_iff.1 hc).1
  refine (grow_exact b n cur C.W hc c1 hn).mono ?_
  rintro e W' ⟨he, cs, g1, g2, g3, g4, g5, g6, g7, g8, g9, g10, g11⟩
  have hρ0 : (fun k => if k = 1 then some C.W.heap.size else C.ρ k) 0 = some b := by simpa using hb
  have hρ1 : (fun k => if k = 1 then some C.W.heap.size else C.ρ k) 1 = some C.W.heap.size := rfl
  refine ⟨_, ⟨W', fun k => if k = 1 then some C.W.heap.size else C.ρ k, C.S⟩, he, rfl, .tup (cs := []) (vs := []) rfl (fun i h => by simp at h), ⟨⟨fun nm o h => ?_, fun nm nm' k o o' h h' k1 k2 => ?_⟩, fun k hk => ?_, fun k hk _ => .inl hk, fun nm o k h1 h2 => ?_, fun nm o k h1 h2 => ?_, ⟨g8, g9, g10, g11, by rw [g4]; omega, fun k hk hn' => ?_, ?_⟩⟩⟩
  · by_cases e0 : 0 = nm
    · subst e0
      simp only [lookO, if_true] at h
      cases h
      refine .of_cells rfl (by simp [RowsOk, RowOk, oneP]) (.inr ⟨b, _, hρ0, hS, g6, ?_⟩)
      have e2 : (cur.setIfInBounds 1 (.slice (some ⟨C.W.heap.size, 0, none⟩) 0 cs.size)).toList.take 2 = [.pointer (some ⟨b, 0 * 2 + 0, none⟩), .slice (some ⟨C.W.heap.size, 0 * 1, none⟩) 0 cs.size] := by
        apply List.ext_getElem?
        intro i
        rw [List.getElem?_take]
        by_cases h2 : i < 2
        · rw [if_pos h2, Array.getElem?_toList]
          match i, h2 with
          | 0, _ => rw [Array.getElem?_setIfInBounds_ne (by omega), c0]; rfl
          | 1, _ => rw [Array.getElem?_setIfInBounds_self_of_lt (by omega)]; rfl
        · rw [if_neg h2]
          match i, h2 with
          | i + 2, _ => rfl
      show ReL _ [.ref 0 2 0 0, .sl 1 1 0 0] _
      rw [show ((bldO (PV.ref 0 2 0 0) (PV.sl 1 1 0 0)).rows.flatten.length) = 2 from rfl, e2]
      exact .cons (Re.ref (sz := 2) (row := 0) (off := 0) hρ0) (.cons (Re.sl (sz := 1) (off := 0) hρ1 g5 (Nat.zero_le _) g2 (by simp)) (.nil _))
    · by_cases e1 : 1 = nm
      · subst e1
        simp only [lookO] at h
        cases h
        refine .of_cells rfl (by simp [RowsOk, RowOk, oneP]) (.inr ⟨_, cs, hρ1, fun hs => ?_, g5, ?_⟩)
        · have := hsub _ hs; omega
        · obtain ⟨z, zs, hz⟩ : ∃ z zs, cs.toList = z :: zs := by
            cases hcs : cs.toList with
            | nil => have := congrArg List.length hcs; rw [Array.length_toList] at this; simp only [List.length_nil] at this; omega
            | cons z zs => exact ⟨z, zs, rfl⟩
          show ReL _ [.any1] (cs.toList.take 1)
          rw [hz]
          exact .cons (.any1 (g3 z (by rw [hz]; simp))) (.nil _)
      · simp [lookO, e0, e1] at h
  · have hne : b ≠ C.W.heap.size := by omega
    have key : ∀ x ox, lookO [(0, bldO (PV.ref 0 2 0 0) (PV.sl 1 1 0 0)), (1, anyO)] x = some ox → x = 0 ∨ x = 1 := by
      intro x ox hx
      by_cases e0 : 0 = x
      · exact .inl e0.symm
      · by_cases e1 : 1 = x
        · exact .inr e1.symm
        · simp [lookO, e0, e1] at hx
    rcases key _ _ h with rfl | rfl <;> rcases key _ _ h' with rfl | rfl
    · rfl
    · cases hρ0.symm.trans k1; cases hρ1.symm.trans k2; exact absurd rfl hne
    · cases hρ1.symm.trans k1; cases hρ0.symm.trans k2; exact absurd rfl hne
    · rfl
  · show k < W'.heap.size
    have := hsub k hk
    omega
  · by_cases e0 : 0 = nm
    · subst e0
      exact .inl ⟨0, _, rfl, by cases hρ0.symm.trans h2; exact hb⟩
    · by_cases e1 : 1 = nm
      · subst e1
        cases hρ1.symm.trans h2
        exact .inr (Nat.le_refl _)
      · simp [lookO, e0, e1] at h1
  · by_cases e0 : 0 = nm
    · subst e0
      rw [hb] at h2; cases h2; exact hρ0
    · simp [lookO, e0] at h1
  · exact g7 k hk (fun e => hn' ⟨0, _, rfl, by rw [hb, e]⟩)
  · intro k cur' T fz hk
    have hk' := (Array.getElem?_eq_some_iff.1 hk).1
    by_cases e0 : k = b
    · subst e0
      rw [hc] at hk; cases hk
      exact ⟨_, _, g6, by simp⟩
    · exact ⟨cur', fz, (g7 k hk' e0).trans hk, rfl⟩
theorem semPure_bind {P : Program} {α β : Type} {k : α → Sem β} : ∀ {s : Sem α} {x : α} {y : β}, semPure P s = some x → semPure P (k x) = some y → semPure P (s >>= k) = some y
  | .pure a, x, y, h, h2 => by simp only [semPure, Option.some.injEq] at h; subst h; exact h2
  | .program f, x, y, h, h2 => semPure_bind (s := f P) h h2
theorem scal_cap0 (ev : Operand → PV) (x : Operand) (dst : Option Tmp) (ty : TypeId) (pos : String) (af : Array Edge) (gu : Option (Nat × Bool)) (h : ev x = .val (.slice none 0 0)) :
    scal Tryz.prog ev ⟨dst, .call ⟨.builtin .cap, #[x], #[92]⟩, ty, pos, af, gu⟩ = ⟨True, .val (.int .i64 0), []⟩ := by
  have e : semPure Tryz.prog (execOp (fun y => (toV (ev y)).getD undef) ⟨dst, .call ⟨.builtin .cap, #[x], #[92]⟩, ty, pos, af, gu⟩) = some (.value (.int .i64 0)) := by
    have hx : (toV (ev x)).getD undef = .slice none 0 0 := by rw [h]; rfl
    have hu : Tryz.prog.underlying 92 = some (.slice 5) := sliceBytes
    have h1 : semPure Tryz.prog (Builtin.cap_ #[92] ty #[.slice none 0 0]) = some (.int .i64 0) := by
      show semPure Tryz.prog ((match Tryz.prog.underlying 92 with | some d => pure d | none => stuck "no such type") >>= fun d => _) = _
      rw [hu]
      rfl
    have h2 : execOp (fun y => (toV (ev y)).getD undef) ⟨dst, .call ⟨.builtin .cap, #[x], #[92]⟩, ty, pos, af, gu⟩ = (Builtin.cap_ #[92] ty #[.slice none 0 0] >>= fun z => pure (.value z)) := by
      simp [execOp, resolve, hx, invoke, builtin]
    rw [h2]
    exact semPure_bind h1 rfl
  unfold scal
  rw [e]
  have hc : cvt (.int .i64 0) = .val (.int .i64 0) := rfl
  simp [hc, Op.operands, h, toV]
theorem Grow_call {n : Nat} (h0 : 0 < n) (hn : n ≤ 140737488355328) : CallOk Tryz.prog 116 [.ref 0 2 0 0, .val (.int .i64 n)] [(0, bldO (.val (.pointer none)) (.val (.slice none 0 0)))] (.tup []) [(0, bldO (.ref 0 2 0 0) (.sl 1 1 0 0)), (1, anyO)] := by
  refine .of_exec Tryz.func116 rfl (enters_116) rfl rfl (Nat.le_of_ble_eq_true rfl) pre1 ?_
  have h0' : (0 : Int) < n := by omega
  simp
  refine callK.own [] [(0, 0)] copyCheck_first (by simp) (by simp) (by simp) (by simp) (by simp) (by simp) (by simp) (by simp) (by simp) (by simp) ?_
  have h1' : ¬ (n : Int) < 0 := by omega
  have hw0 : IntKind.i64.wrap 0 = 0 := rfl
  simp [h0', h1', scal_cap0, hw0]
  refine ⟨rfl, fun _ => ?_, fun h => absurd h0 (by omega)⟩
  refine callK.own [] [(0, 0)] (grow_call h0 hn) (by simp) (by simp) (by simp) (by simp) (by simp) (by simp) (by simp) (by simp) (by simp) (by simp) ?_
  simp
  exact .own [(0, 0), (217, 1)] (by simp) (by simp) (by simp) (by simp) (by simp)
theorem copyCheck_any : CallOk Tryz.prog 133 [.ref 0 2 0 0] [(0, bldO (.ref 0 2 0 0) (.sl 1 1 0 0)), (1, anyO)] (.tup []) [(0, bldO (.ref 0 2 0 0) (.sl 1 1 0 0)), (1, anyO)] := by
  refine ⟨enters_133, fun C vs hargs hob hsub hsm => ?_⟩
  obtain ⟨v, rfl, hv⟩ := reL1 hargs
  obtain ⟨b, hb, rfl⟩ := ref_re hv
  obtain ⟨cur, u, v, _, hc, hsz, c0, c1, hu, hx⟩ := bld_at (hob.obs 0 _ rfl) hb
  obtain ⟨b', hb', rfl⟩ := ref_re hu
  rw [hb] at hb'; cases hb'
  refine (copyCheck_used b C.W (by rw [Lib.cell_of_heap hc]; exact c0)).mono ?_
  rintro e W' ⟨he, rfl⟩
  exact ⟨_, C, he, rfl, .tup (cs := []) (vs := []) rfl (fun i h => by simp at h), hob, hsub, fun b hb _ => .inl hb, fun nm ob b h2 h3 => .inl ⟨nm, ob, h2, h3⟩, fun nm ob b _ h => h, Fr.refl _ _⟩
theorem Write_grown {s : ByteArray} (h : s.size ≤ 140737488355328) : CallOk Tryz.prog 117 [.ref 0 2 0 0, .val (.string s)] [(0, bldO (.ref 0 2 0 0) (.sl 1 1 0 0)), (1, anyO)] (.tup [.val (.int .i64 s.size), .val .nilIface]) [(0, bldO (.ref 0 2 0 0) (.sl 2 1 0 s.size)), (2, bytO s)] := by
  refine .of_exec Tryz.func117 rfl (enters_117) rfl rfl (Nat.le_of_ble_eq_true rfl) pre2 ?_
  simp
  refine callK.own [] [(0, 0), (1, 1)] copyCheck_any (by simp) (by simp) (by simp) (by simp) (by simp) (by simp) (by simp) (by simp) (by simp) (by simp) ?_
  simp [h]
  exact .own [(0, 0), (144, 2)] (by simp) (by simp) (by simp) (by simp) (by simp)
end Go.Proofs.YtbigcojlpcchiaaGreat.Sy
