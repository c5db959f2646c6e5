/- A map of numbers that the call makes and asks: laid bare. -/
import Derived.Test.YtdbpkiddiehliaaGreatDeleteE
import Derived.Test.YtdbpkiddiehliaaGreatSegSort
import Derived.Maps.Own
namespace Go.Proofs.YtdbpkiddiehliaaGreat
open Go Go.RowKit Go.Sort
/-- Block mb is a map in which just these numbers lead to true. -/
def MapI (w : World) (mb : Nat) (ps : List Int) : Prop := ∃ es clock, w.heap[mb]? = some (.map es clock) ∧ (∀ e ∈ es.toList, ∃ z, z ∈ ps ∧ e.key = .int .i64 z ∧ e.val = .bool true) ∧ (∀ z, z ∈ ps → ∃ e ∈ es.toList, e.key = .int .i64 z)
theorem MapI.fr {w w' : World} {mb : Nat} {ps : List Int} (h : MapI w mb ps) {S : Nat → Prop} (hf : Fr S w w') (hs : ¬ S mb) : MapI w' mb ps := by
  obtain ⟨es, c, h1, h2⟩ := h
  exact ⟨es, c, hf.heap h1 hs, h2⟩
theorem MapI.lt {w : World} {mb : Nat} {ps : List Int} (h : MapI w mb ps) : mb < w.heap.size := by
  obtain ⟨es, c, h1, _⟩ := h
  exact lt_of_heap h1
theorem findNow_int (z : Int) : ∀ (es : List MapEntry) (i : Nat), (∀ e ∈ es, ∃ y, e.key = .int .i64 y) →
    (Instr.findNow (.int .i64) (.int .i64 z) es i = some none ∧ ∀ e ∈ es, e.key ≠ .int .i64 z) ∨ ∃ (j : Nat) (e : MapEntry), Instr.findNow (.int .i64) (.int .i64 z) es i = some (some (i + j, e.val)) ∧ es[j]? = some e ∧ e.key = .int .i64 z
  | [], i, _ => .inl ⟨rfl, fun _ h => by cases h⟩
  | a :: es, i, h => by
    obtain ⟨y, hy⟩ := h a (by simp)
    by_cases e : z = y
    · subst e
      refine .inr ⟨0, a, ?_, rfl, hy⟩
      simp [Instr.findNow, Instr.sameNow, hy]
    · have hs : Instr.sameNow (.int .i64) (.int .i64 z) a.key = some false := by simp [Instr.sameNow, hy, e]
      rcases findNow_int z es (i + 1) (fun x hx => h x (by simp [hx])) with ⟨h1, h2⟩ | ⟨j, x, h1, h2, h3⟩
      · refine .inl ⟨by simp [Instr.findNow, hs, h1], fun x hx => ?_⟩
        rcases List.mem_cons.1 hx with rfl | hx
        · rw [hy]; intro h; injection h with _ h; exact e h.symm
        · exact h2 x hx
      · exact .inr ⟨j + 1, x, by simp only [Instr.findNow, hs, h1]; congr 3; omega, by simpa using h2, h3⟩
section
variable {P : Program} {tm ti tb : TypeId}
theorem run_checkInt (r_ti : ∀ w, (underlying ti).run P w = .ok (.int .i64) w) (b : Bool) (n : Nat) (z : Int) (w : World) : (Instr.checkKey b (n + 1) ti (.int .i64 z)).run P w = .ok () w := by
  simp [Instr.checkKey, Sem.run_bind, r_ti, Result.andThen_ok, Sem.run_pure]
theorem run_lookupI (r_tm : ∀ w, (underlying tm).run P w = .ok (.map ti tb) w) (r_ti : ∀ w, (underlying ti).run P w = .ok (.int .i64) w) (v_tb : ∀ w, (zeroValue tb).run P w = .ok (.bool false) w)
    {w : World} {mb : Nat} {ps : List Int} (h : MapI w mb ps) (z : Int) : (Instr.lookup tm (.map (some mb)) (.int .i64 z) false).run P w = .ok (.bool (inI ps z)) w := by
  obtain ⟨es, c, h1, h2, h3⟩ := h
  have hk : ∀ b, (Instr.checkKey b 10000 ti (.int .i64 z)).run P w = .ok () w := fun b => run_checkInt r_ti b 9999 z w
  have hg : (Sem.run P (getObj mb) w) = .ok (.map es c) w := by simp [getObj, Sem.run, h1]
  rcases findNow_int z es.toList 0 (fun e he => by obtain ⟨y, _, hy, _⟩ := h2 e he; exact ⟨y, hy⟩) with ⟨f1, f2⟩ | ⟨j, e, f1, f2, f3⟩
  · have hn : inI ps z = false := by
      unfold inI
      refine decide_eq_false fun hz => ?_
      obtain ⟨e, he, hek⟩ := h3 z hz
      exact f2 e he hek
    simp [Instr.lookup, Instr.findKey, Sem.run_bind, r_tm, r_ti, hg, hk, f1, v_tb, Result.andThen_ok, Sem.run_pure, hn]
  · obtain ⟨y, hy, hek, hev⟩ := h2 e (List.mem_of_getElem? f2)
    rw [f3] at hek
    injection hek with _ hek
    subst hek
    have hn : inI ps z = true := decide_eq_true hy
    simp [Instr.lookup, Instr.findKey, Sem.run_bind, r_tm, r_ti, hg, hk, f1, Result.andThen_ok, Sem.run_pure, hn, hev]
theorem findNow_at (es : Array MapEntry) (j : Nat) (e : MapEntry) (h : es.toList[j]? = some e) : ∃ hj : j < es.size, es[j] = e := by
  have hj : j < es.size := by simpa using (List.getElem?_eq_some_iff.1 h).1
  refine ⟨hj, ?_⟩
  have := (List.getElem?_eq_some_iff.1 h).2
  simpa using this
theorem run_updateI (r_tm : ∀ w, (underlying tm).run P w = .ok (.map ti tb) w) (r_ti : ∀ w, (underlying ti).run P w = .ok (.int .i64) w)
    {w : World} {mb : Nat} {ps : List Int} (h : MapI w mb ps) (z : Int) : ∃ w', (Instr.mapUpdate tm (.map (some mb)) (.int .i64 z) (.bool true)).run P w = .ok () w' ∧ MapI w' mb (ps ++ [z]) ∧ Fr (· = mb) w w' := by
  have hmb := h.lt
  obtain ⟨es, c, h1, h2, h3⟩ := h
  have hk : ∀ b, (Instr.checkKey b 10000 ti (.int .i64 z)).run P w = .ok () w := fun b => run_checkInt r_ti b 9999 z w
  have hg : (Sem.run P (getObj mb) w) = .ok (.map es c) w := by simp [getObj, Sem.run, h1]
  have hs : ∀ es' c', (Sem.run P (setObj mb (.map es' c')) w) = .ok () { w with heap := w.heap.setIfInBounds mb (.map es' c') } := fun es' c' => by simp [setObj, Sem.run, h1]
  have hfr : ∀ es' c', Fr (· = mb) w { w with heap := w.heap.setIfInBounds mb (.map es' c') } := fun es' c' => ⟨rfl, rfl, rfl, by simp, fun q _ hq => by
    show (w.heap.setIfInBounds mb _)[q]? = _
    rw [Array.getElem?_setIfInBounds_ne (fun e => hq e.symm)]⟩
  have hat : ∀ es' c', ({ w with heap := w.heap.setIfInBounds mb (.map es' c') } : World).heap[mb]? = some (.map es' c') := fun es' c' => by
    show (w.heap.setIfInBounds mb _)[mb]? = _
    rw [Array.getElem?_setIfInBounds_self_of_lt hmb]
  rcases findNow_int z es.toList 0 (fun e he => by obtain ⟨y, _, hy, _⟩ := h2 e he; exact ⟨y, hy⟩) with ⟨f1, f2⟩ | ⟨j, e, f1, f2, f3⟩
  · refine ⟨_, ?_, ⟨es.push { key := .int .i64 z, val := .bool true, born := c }, c + 1, hat _ _, fun e he => ?_, fun y hy => ?_⟩, hfr _ _⟩
    · simp [Instr.mapUpdate, Instr.findKey, Sem.run_bind, r_tm, r_ti, hg, hk, f1, hs, Result.andThen_ok, Sem.run_pure]
    · rw [Array.toList_push] at he
      rcases List.mem_append.1 he with he | he
      · obtain ⟨y, hy, hr⟩ := h2 e he
        exact ⟨y, by simp [hy], hr⟩
      · simp at he; subst he; exact ⟨z, by simp, rfl, rfl⟩
    · rw [Array.toList_push]
      rcases List.mem_append.1 hy with hy | hy
      · obtain ⟨e, he, hr⟩ := h3 y hy
        exact ⟨e, by simp [he], hr⟩
      · simp at hy; subst hy; exact ⟨{ key := .int .i64 y, val := .bool true, born := c }, List.mem_append.2 (.inr (by simp)), rfl⟩
  · obtain ⟨hj, hje⟩ := findNow_at es j e f2
    obtain ⟨y, hy, hek, hev⟩ := h2 e (List.mem_of_getElem? f2)
    rw [f3] at hek
    injection hek with _ hek
    subst hek
    refine ⟨_, ?_, ⟨es.modify j fun e => { e with key := .int .i64 z, val := .bool true }, c, hat _ _, fun x hx => ?_, fun y hy' => ?_⟩, hfr _ _⟩
    · simp [Instr.mapUpdate, Instr.findKey, Sem.run_bind, r_tm, r_ti, hg, hk, f1, hs, Result.andThen_ok, Sem.run_pure, Instr.keyThatStays, Instr.sameBits, Array.getElem?_eq_getElem hj, hje, f3]
    · obtain ⟨q, hq, rfl⟩ := List.mem_iff_getElem.1 hx
      have hq' : q < es.size := by simpa using hq
      simp only [Array.getElem_toList, Array.getElem_modify]
      split
      · exact ⟨z, by simp [hy], rfl, rfl⟩
      · have := h2 es[q] (by simp)
        obtain ⟨y', hy', hr⟩ := this
        exact ⟨y', by simp [hy'], hr⟩
    · have hy2 : y ∈ ps := by
        rcases List.mem_append.1 hy' with h | h
        · exact h
        · simp at h; subst h; exact hy
      obtain ⟨x, hx, hxk⟩ := h3 y hy2
      obtain ⟨q, hq, rfl⟩ := List.mem_iff_getElem.1 hx
      have hq' : q < es.size := by simpa using hq
      refine ⟨(es.modify j fun e => { e with key := .int .i64 z, val := .bool true })[q]'(by simpa using hq'), Array.mem_toList_iff.2 (Array.getElem_mem _), ?_⟩
      rw [Array.getElem_modify]
      split
      · rename_i e'
        subst e'
        simp only [Array.getElem_toList] at hxk
        rw [hje, f3] at hxk
        exact hxk
      · simpa using hxk
/-- A store into the map, for the walk. -/
theorem wpl_mapUpdateI {w : World} {ops : Array Oper} {rest : List Oper} {o : Oper} {a : Act} {Q : Exit → Act → World → Prop} (hgd : o.guard = none) {m kk x : Operand}
    (ho : o.op = .mapUpdate tm m kk x) (r_tm : ∀ w, (underlying tm).run P w = .ok (.map ti tb) w) (r_ti : ∀ w, (underlying ti).run P w = .ok (.int .i64) w) {mb : Nat} {ps : List Int} {z : Int}
    (hm : a.eval m = .map (some mb)) (hk : a.eval kk = .int .i64 z) (hx : a.eval x = .bool true) (hM : MapI w mb ps)
    (h : ∀ w', MapI w' mb (ps ++ [z]) → Fr (· = mb) w w' → wpList P ops Q rest (a.put o.dst undef) w') : wpList P ops Q (o :: rest) a w := by
  obtain ⟨w', hr, h2, h3⟩ := run_updateI r_tm r_ti hM z
  refine wpList_plain hgd fun K hK => ?_
  unfold Oper.wp execOp
  simp only [ho, hm, hk, hx, Sem.run_bind, hr, Result.andThen_ok, Sem.run_pure]
  exact hK _ _ (h w' h2 h3)
end
variable {P : Program} {k h : Nat}
set_option maxHeartbeats 2000000 in
set_option maxRecDepth 100000 in
theorem withoutF_ok (L : SG P k h) (D : SD P) (ut : P.underlying 66 = some (TypeDesc.map 3 4)) (W : World) (e : Ent) {mb gb : Nat} {ps : List Int} (hM : MapI W mb ps) (hg : W.cell? ⟨gb, 0, none⟩ = some (.map (some mb))) (hgl : gb < W.heap.size) :
    Calls P 29 #[.agg (entC e).toArray, .pointer (some ⟨gb, 0, none⟩)] W fun r w' => r = .returned (.bool (inI ps e.pk)) ∧ Grown W w' := by
  have u_tUnit := L.u_tUnit; have r_tUnit := L.r_tUnit; have a_tUnit := L.a_tUnit; have z_tUnit := L.z_tUnit; have v_tUnit := L.v_tUnit; have u_tInt := L.u_tInt; have r_tInt := L.r_tInt; have a_tInt := L.a_tInt; have z_tInt := L.z_tInt; have v_tInt := L.v_tInt; have u_tBool := L.u_tBool; have r_tBool := L.r_tBool; have a_tBool := L.a_tBool; have z_tBool := L.z_tBool; have v_tBool := L.v_tBool; have u_tHash := L.u_tHash; have r_tHash := L.r_tHash; have a_tHash := L.a_tHash; have z_tHash := L.z_tHash; have v_tHash := L.v_tHash; have u_tWhere := L.u_tWhere; have r_tWhere := L.r_tWhere; have a_tWhere := L.a_tWhere; have z_tWhere := L.z_tWhere; have v_tWhere := L.v_tWhere; have u_tEnt := L.u_tEnt; have r_tEnt := L.r_tEnt; have a_tEnt := L.a_tEnt; have z_tEnt := L.z_tEnt; have v_tEnt := L.v_tEnt
  have u_tMapIB := D.u_tMapIB; have r_tMapIB := D.r_tMapIB; have a_tMapIB := D.a_tMapIB; have z_tMapIB := D.z_tMapIB; have v_tMapIB := D.v_tMapIB
  have mixed := L.mixed
  have hlk := run_lookupI (P := P) (tm := 66) (fun w => run_underlying ut w) (fun w => run_underlying L.u_tInt w) L.v_tBool (hM.fr ((Fr.refl (fun _ => False) W).alloc (.cells (entC e).toArray 54 (0, 0))) id) e.pk
  have h1 := (entC_at e).1
  have h1' : (entC e).toArray[32]? = some (.int .i64 e.pk) := by simpa using h1
  clear hM h1
  generalize inI ps e.pk = r at *
  generalize e.pk = z at *
  generalize entC e = X at *
  go_enter D.f_segWithoutF, Tryz.ntmps29
  go_wp2
  go_ret
  exact ⟨rfl, (Grown.refl _).alloc _⟩
end Go.Proofs.YtdbpkiddiehliaaGreat
