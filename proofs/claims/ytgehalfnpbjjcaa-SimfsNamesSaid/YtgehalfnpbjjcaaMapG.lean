/- Maps laid bare: keys and elements of any kind; an assoc list says what block m holds; and the laws for the walk. -/
import Derived.Test.YtgehalfnpbjjcaaBase
import Derived.Maps.OwnOps
import Derived.Maps.RangeWalk
namespace Go.Proofs.Ytgehalfnpbjjcaa
open Go Go.RowKit
open Go.ChangeMaps (setBlock)
/-- How a kind of key is found. -/
structure KeyG {α : Type} (P : Program) (tk : TypeId) (ek : α → Value) (good : World → α → Prop) : Prop where
  inj : ∀ {a b : α}, ek a = ek b → a = b
  check : ∀ (b : Bool) (a : α) (w : World), (Instr.checkKey b 10000 tk (ek a)).run P w = .ok () w
  find : ∀ (a : α) (w : World) (es : List MapEntry), good w a → (∀ e ∈ es, ∃ b, e.key = ek b ∧ good w b) →
    (∃ j e, es[j]? = some e ∧ e.key = ek a ∧ (Instr.findKey tk (ek a) es).run P w = .ok (some (j, e.val)) w) ∨ ((∀ e ∈ es, e.key ≠ ek a) ∧ (Instr.findKey tk (ek a) es).run P w = .ok none w)
  same : ∀ a : α, Instr.sameBits 10000 (ek a) (ek a) = true
theorem findNow_g {α : Type} [DecidableEq α] {ek : α → Value} {td : TypeDesc} (hs : ∀ a b, Instr.sameNow td (ek a) (ek b) = some (decide (a = b))) (a : α) : ∀ (es : List MapEntry) (i : Nat), (∀ e ∈ es, ∃ b, e.key = ek b) →
    (∃ j e, es[j]? = some e ∧ e.key = ek a ∧ Instr.findNow td (ek a) es i = some (some (i + j, e.val))) ∨ ((∀ e ∈ es, ∀ b, e.key = ek b → b ≠ a) ∧ Instr.findNow td (ek a) es i = some none)
  | [], i, _ => .inr ⟨fun _ h => by simp at h, rfl⟩
  | e :: es, i, h => by
    obtain ⟨b, hb⟩ := h e (by simp)
    by_cases hab : a = b
    · subst hab
      exact .inl ⟨0, e, rfl, hb, by simp [Instr.findNow, hb, hs]⟩
    · have hn : Instr.sameNow td (ek a) e.key = some false := by rw [hb, hs]; simp [hab]
      rcases findNow_g hs a es (i + 1) (fun x hx => h x (by simp [hx])) with ⟨j, x, h1, h2, h3⟩ | ⟨h1, h2⟩
      · exact .inl ⟨j + 1, x, by simpa using h1, h2, by simp only [Instr.findNow, hn, h3]; congr 3; omega⟩
      · refine .inr ⟨fun x hx c hc => ?_, by simp [Instr.findNow, hn, h2]⟩
        rcases List.mem_cons.1 hx with rfl | hx
        · intro e'
          have h9 := hs a c
          rw [← hc, hn] at h9
          subst e'
          simp at h9
        · exact h1 x hx c hc
/-- Keys of a kind that is told apart at once. -/
theorem KeyG.now {α : Type} [DecidableEq α] {P : Program} {tk : TypeId} {ek : α → Value} {td : TypeDesc} (ht : ∀ w, (underlying tk).run P w = .ok td w) (hs : ∀ a b, Instr.sameNow td (ek a) (ek b) = some (decide (a = b)))
    (hc : ∀ (b : Bool) (a : α) (w : World), (Instr.checkKey b 10000 tk (ek a)).run P w = .ok () w) (hb : ∀ a : α, Instr.sameBits 10000 (ek a) (ek a) = true) : KeyG P tk ek (fun _ _ => True) where
  inj := fun {a b} h => by
    have h1 := hs a a
    have h2 := hs a b
    rw [← h, h1] at h2
    simpa using h2
  check := hc
  find := fun a w es _ he => by
    rcases findNow_g hs a es 0 (fun e h => by obtain ⟨b, hb, _⟩ := he e h; exact ⟨b, hb⟩) with ⟨j, e, h1, h2, h3⟩ | ⟨h1, h2⟩
    · refine .inl ⟨j, e, h1, h2, ?_⟩
      rw [Nat.zero_add] at h3
      simp [Instr.findKey, Sem.run_bind, ht, h3, Result.andThen_ok, Sem.run_pure]
    · refine .inr ⟨fun e hm hk => h1 e hm a hk rfl, ?_⟩
      simp [Instr.findKey, Sem.run_bind, ht, h2, Result.andThen_ok, Sem.run_pure]
  same := hb
theorem run_checkS {P : Program} {tk : TypeId} (r_tk : ∀ w, (underlying tk).run P w = .ok .string w) (b : Bool) (n : Nat) (s : ByteArray) (w : World) : (Instr.checkKey b (n + 1) tk (.string s)).run P w = .ok () w := by
  simp [Instr.checkKey, Sem.run_bind, r_tk, Result.andThen_ok, Sem.run_pure]
theorem sameBits_s (n : Nat) (s : ByteArray) : Instr.sameBits n (.string s) (.string s) = true := by
  unfold Instr.sameBits
  exact (MapKept.bytes_beq s s).2 rfl
theorem keyS {P : Program} {tk : TypeId} (r_tk : ∀ w, (underlying tk).run P w = .ok .string w) : KeyG P tk Value.string (fun _ _ => True) :=
  KeyG.now r_tk (fun a b => by
    show some (a == b) = some (decide (a = b))
    congr 1
    rw [Bool.eq_iff_iff, MapKept.bytes_beq, decide_eq_true_eq]) (fun b a w => run_checkS r_tk b 9999 a w) (fun a => sameBits_s 10000 a)
section
/- Assoc lists. -/
variable {α β : Type} [DecidableEq α]
def dget (d : List (α × β)) (k : α) : Option β := (d.find? fun p => decide (p.1 = k)).map (·.2)
def dput (d : List (α × β)) (k : α) (v : β) : List (α × β) := if k ∈ d.map Prod.fst then d.map fun p => if p.1 = k then (k, v) else p else d ++ [(k, v)]
def ddel (d : List (α × β)) (k : α) : List (α × β) := d.filter fun p => !decide (p.1 = k)
theorem map_eraseIdx {γ δ : Type} (f : γ → δ) : ∀ (l : List γ) (j : Nat), (l.eraseIdx j).map f = (l.map f).eraseIdx j
  | [], _ => by simp
  | a :: l, 0 => rfl
  | a :: l, j + 1 => by simp [map_eraseIdx f l j]
theorem dget_none {d : List (α × β)} {k : α} (h : ∀ p ∈ d, p.1 ≠ k) : dget d k = none := by
  unfold dget
  rw [Option.map_eq_none_iff, List.find?_eq_none]
  intro p hp
  simpa using h p hp
theorem dget_mem {d : List (α × β)} {k : α} {v : β} (hn : (d.map Prod.fst).Nodup) (h : (k, v) ∈ d) : dget d k = some v := by
  induction d with
  | nil => simp at h
  | cons a d ih =>
    obtain ⟨ka, va⟩ := a
    simp only [List.map_cons, List.nodup_cons] at hn
    unfold dget
    rw [List.find?_cons]
    by_cases hk : ka = k
    · subst hk
      simp only [decide_true, Option.map_some, Option.some.injEq]
      rcases List.mem_cons.1 h with h | h
      · injection h with _ h; exact h.symm
      · exact absurd (List.mem_map.2 ⟨_, h, rfl⟩) hn.1
    · rw [decide_eq_false hk]
      rcases List.mem_cons.1 h with h | h
      · injection h with h _; exact absurd h.symm hk
      · exact ih hn.2 h
theorem mem_of_dget {d : List (α × β)} {k : α} {v : β} (h : dget d k = some v) : (k, v) ∈ d := by
  unfold dget at h
  rw [Option.map_eq_some_iff] at h
  obtain ⟨p, hp, rfl⟩ := h
  have h1 := List.find?_some hp
  have h2 := List.mem_of_find?_eq_some hp
  simp only [decide_eq_true_eq] at h1
  subst h1
  exact h2
theorem dget_none_iff {d : List (α × β)} {k : α} : dget d k = none ↔ k ∉ d.map Prod.fst := by
  constructor
  · intro h hk
    obtain ⟨p, hp, rfl⟩ := List.mem_map.1 hk
    unfold dget at h
    rw [Option.map_eq_none_iff, List.find?_eq_none] at h
    simpa using h p hp
  · intro h
    exact dget_none fun p hp e => h (List.mem_map.2 ⟨p, hp, e⟩)
theorem dput_keys (d : List (α × β)) (k : α) (v : β) : (dput d k v).map Prod.fst = if k ∈ d.map Prod.fst then d.map Prod.fst else d.map Prod.fst ++ [k] := by
  unfold dput
  split
  · rw [List.map_map]
    refine List.map_congr_left fun p _ => ?_
    simp only [Function.comp]
    split
    · rename_i h; exact h.symm
    · rfl
  · simp
theorem dput_nodup {d : List (α × β)} (hn : (d.map Prod.fst).Nodup) (k : α) (v : β) : ((dput d k v).map Prod.fst).Nodup := by
  rw [dput_keys]
  split
  · exact hn
  · rename_i h
    rw [List.nodup_append]
    exact ⟨hn, by simp, fun a ha b hb e => by simp at hb; subst hb; subst e; exact h ha⟩
theorem ddel_nodup {d : List (α × β)} (hn : (d.map Prod.fst).Nodup) (k : α) : ((ddel d k).map Prod.fst).Nodup :=
  hn.sublist (List.Sublist.map _ List.filter_sublist)
theorem dget_put_self {d : List (α × β)} (hn : (d.map Prod.fst).Nodup) (k : α) (v : β) : dget (dput d k v) k = some v := by
  refine dget_mem (dput_nodup hn k v) ?_
  unfold dput
  split
  · rename_i h
    obtain ⟨p, hp, hk⟩ := List.mem_map.1 h
    exact List.mem_map.2 ⟨p, hp, by rw [if_pos hk]⟩
  · simp
theorem dget_put_ne {d : List (α × β)} (hn : (d.map Prod.fst).Nodup) {k k' : α} (h : k' ≠ k) (v : β) : dget (dput d k v) k' = dget d k' := by
  cases hd : dget d k' with
  | some x =>
    refine dget_mem (dput_nodup hn k v) ?_
    have hm := mem_of_dget hd
    unfold dput
    split
    · exact List.mem_map.2 ⟨_, hm, by rw [if_neg h]⟩
    · exact List.mem_append.2 (.inl hm)
  | none =>
    rw [dget_none_iff] at hd ⊢
    rw [dput_keys]
    split
    · exact hd
    · simp only [List.mem_append, List.mem_singleton, not_or]; exact ⟨hd, h⟩
theorem dget_del_self (d : List (α × β)) (k : α) : dget (ddel d k) k = none := by
  refine dget_none fun p hp => ?_
  unfold ddel at hp
  simpa using (List.mem_filter.1 hp).2
theorem dget_del_ne {d : List (α × β)} (hn : (d.map Prod.fst).Nodup) {k k' : α} (h : k' ≠ k) : dget (ddel d k) k' = dget d k' := by
  cases hd : dget d k' with
  | some x =>
    refine dget_mem (ddel_nodup hn k) ?_
    exact List.mem_filter.2 ⟨mem_of_dget hd, by simpa using h⟩
  | none =>
    rw [dget_none_iff] at hd ⊢
    intro hm
    obtain ⟨p, hp, rfl⟩ := List.mem_map.1 hm
    exact hd (List.mem_map.2 ⟨p, (List.mem_filter.1 hp).1, rfl⟩)
theorem dput_at {d : List (α × β)} (hn : (d.map Prod.fst).Nodup) {j : Nat} {k : α} {v0 v : β} (h : d[j]? = some (k, v0)) : d.set j (k, v) = dput d k v := by
  have hk : k ∈ d.map Prod.fst := List.mem_map.2 ⟨_, List.mem_of_getElem? h, rfl⟩
  unfold dput
  rw [if_pos hk]
  obtain ⟨hj, hje⟩ := List.getElem?_eq_some_iff.1 h
  refine List.ext_getElem (by simp) fun i h1 h2 => ?_
  rw [List.getElem_set, List.getElem_map]
  have hi : i < d.length := by simpa using h1
  by_cases hij : j = i
  · subst hij
    rw [if_pos rfl, hje, if_pos rfl]
  · rw [if_neg hij, if_neg]
    intro e
    have h3 : (d.map Prod.fst)[i]'(by simpa using hi) = (d.map Prod.fst)[j]'(by simpa using hj) := by simp [e, hje]
    exact hij ((List.getElem_inj hn).1 h3).symm
theorem ddel_at {d : List (α × β)} (hn : (d.map Prod.fst).Nodup) {j : Nat} {k : α} {v0 : β} (h : d[j]? = some (k, v0)) : d.eraseIdx j = ddel d k := by
  induction d generalizing j with
  | nil => simp at h
  | cons a d ih =>
    simp only [List.map_cons, List.nodup_cons] at hn
    unfold ddel
    cases j with
    | zero =>
      simp only [List.getElem?_cons_zero, Option.some.injEq] at h
      subst h
      simp only [List.eraseIdx_zero, List.tail_cons, List.filter_cons, decide_true, Bool.not_true, Bool.false_eq_true, if_false]
      symm
      rw [List.filter_eq_self]
      intro p hp
      simp only [Bool.not_eq_true', decide_eq_false_iff_not]
      intro e
      exact hn.1 (List.mem_map.2 ⟨p, hp, e⟩)
    | succ j =>
      have h' : d[j]? = some (k, v0) := by simpa using h
      have ha : a.1 ≠ k := fun e => hn.1 (by rw [e]; exact List.mem_map.2 ⟨_, List.mem_of_getElem? h', rfl⟩)
      rw [List.eraseIdx_cons_succ, List.filter_cons, decide_eq_false ha, ih hn.2 h']
      rfl
theorem ddel_absent {d : List (α × β)} {k : α} (h : ∀ p ∈ d, p.1 ≠ k) : ddel d k = d := by
  unfold ddel
  rw [List.filter_eq_self]
  intro p hp
  simpa using h p hp
end
section
variable {α β : Type} {ek : α → Value} {ev : β → Value}
/-- Block m is a map that holds just d. -/
def MapG (ek : α → Value) (ev : β → Value) (w : World) (m : Nat) (d : List (α × β)) : Prop :=
  ∃ es clock, w.heap[m]? = some (.map es clock) ∧ es.toList.map (fun e => (e.key, e.val)) = d.map (fun p => (ek p.1, ev p.2)) ∧ (∀ e ∈ es.toList, e.born < clock) ∧ (es.toList.map (·.born)).Nodup ∧ (d.map Prod.fst).Nodup
theorem MapG.lt {w : World} {m : Nat} {d : List (α × β)} (h : MapG ek ev w m d) : m < w.heap.size := by
  obtain ⟨es, c, h1, _⟩ := h
  exact lt_of_heap h1
theorem MapG.nodup {w : World} {m : Nat} {d : List (α × β)} (h : MapG ek ev w m d) : (d.map Prod.fst).Nodup := by
  obtain ⟨es, c, _, _, _, _, h5⟩ := h
  exact h5
theorem MapG.fr {w w' : World} {m : Nat} {d : List (α × β)} (h : MapG ek ev w m d) {S : Nat → Prop} (hf : Fr S w w') (hs : ¬ S m) : MapG ek ev w' m d := by
  obtain ⟨es, c, h1, h2⟩ := h
  exact ⟨es, c, hf.heap h1 hs, h2⟩
theorem entry_at {es : Array MapEntry} {d : List (α × β)} (h : es.toList.map (fun e => (e.key, e.val)) = d.map (fun p => (ek p.1, ev p.2))) {j : Nat} {e : MapEntry} (he : es.toList[j]? = some e) : ∃ k v, d[j]? = some (k, v) ∧ e.key = ek k ∧ e.val = ev v := by
  have h1 : (es.toList.map (fun e => (e.key, e.val)))[j]? = some (e.key, e.val) := by rw [List.getElem?_map, he]; rfl
  rw [h, List.getElem?_map, Option.map_eq_some_iff] at h1
  obtain ⟨⟨k, v⟩, h2, h3⟩ := h1
  injection h3 with h3 h4
  exact ⟨k, v, h2, h3.symm, h4.symm⟩
theorem entries_keys {G : α → Prop} {es : Array MapEntry} {d : List (α × β)} (h : es.toList.map (fun e => (e.key, e.val)) = d.map (fun p => (ek p.1, ev p.2))) (hg : ∀ p ∈ d, G p.1) : ∀ e ∈ es.toList, ∃ b, e.key = ek b ∧ G b := fun e he => by
  obtain ⟨j, hj⟩ := List.getElem?_of_mem he
  obtain ⟨k, v, h1, h2, _⟩ := entry_at h hj
  exact ⟨k, h2, hg _ (List.mem_of_getElem? h1)⟩
theorem absent_of {es : Array MapEntry} {d : List (α × β)} (h : es.toList.map (fun e => (e.key, e.val)) = d.map (fun p => (ek p.1, ev p.2))) {k : α} (hk : ∀ e ∈ es.toList, e.key ≠ ek k) : ∀ p ∈ d, p.1 ≠ k := fun p hp e => by
  have h1 : (ek p.1, ev p.2) ∈ es.toList.map (fun e => (e.key, e.val)) := by rw [h]; exact List.mem_map.2 ⟨p, hp, rfl⟩
  obtain ⟨x, hx, hxe⟩ := List.mem_map.1 h1
  injection hxe with hx1 _
  exact hk x hx (by rw [hx1, e])
theorem setBlock_fr {w : World} {m : Nat} (o : Obj) : Fr (· = m) w (setBlock w m o) := ⟨rfl, rfl, rfl, by simp [setBlock], fun q _ hq => by
  show (w.heap.setIfInBounds m _)[q]? = _
  rw [Array.getElem?_setIfInBounds_ne (fun e => hq e.symm)]⟩
theorem setBlock_at {w : World} {m : Nat} (h : m < w.heap.size) (o : Obj) : (setBlock w m o).heap[m]? = some o := by
  show (w.heap.setIfInBounds m _)[m]? = _
  rw [Array.getElem?_setIfInBounds_self_of_lt h]
theorem run_setMap {P : Program} {w : World} {m : Nat} {es : Array MapEntry} {c : Nat} (h1 : w.heap[m]? = some (.map es c)) (es' : Array MapEntry) (c' : Nat) : (Sem.run P (setObj m (.map es' c')) w) = .ok () (setBlock w m (.map es' c')) := by simp [setObj, Sem.run, h1, setBlock]
theorem modify_list (es : Array MapEntry) (j : Nat) (f : MapEntry → MapEntry) : (es.modify j f).toList = es.toList.modify j f := by
  refine List.ext_getElem? fun i => ?_
  rw [Array.getElem?_toList, List.getElem?_modify]
  rw [Array.getElem?_modify]
  simp only [Array.getElem?_toList]
  split <;> simp_all
theorem MapG.made {w : World} : MapG ek ev (w.alloc (.map #[] 0)) w.heap.size [] := ⟨#[], 0, heap_alloc_new w _, rfl, by simp, by simp, by simp⟩
end
section
variable {α β : Type} [DecidableEq α] {P : Program} {tm tk te : TypeId} {ek : α → Value} {ev : β → Value} {good : World → α → Prop}
theorem run_lookupG (K : KeyG P tk ek good) (r_tm : ∀ w, (underlying tm).run P w = .ok (.map tk te) w) {z : Value} (v_te : ∀ w, (zeroValue te).run P w = .ok z w) {w : World} {m : Nat} {d : List (α × β)} (h : MapG ek ev w m d) (hgs : ∀ p ∈ d, good w p.1) (k : α) (hgk : good w k) (ok : Bool) :
    (Instr.lookup tm (.map (some m)) (ek k) ok).run P w = .ok (match dget d k with | some v => if ok then .tuple #[ev v, .bool true] else ev v | none => if ok then .tuple #[z, .bool false] else z) w := by
  obtain ⟨es, c, h1, h2, h3, h4, h5⟩ := h
  have hg : (Sem.run P (getObj m) w) = .ok (.map es c) w := by simp [getObj, Sem.run, h1]
  rcases K.find k w es.toList hgk (entries_keys h2 hgs) with ⟨j, e, f1, f2, f3⟩ | ⟨f1, f2⟩
  · obtain ⟨k', v, g1, g2, g3⟩ := entry_at h2 f1
    obtain rfl := K.inj (g2.symm.trans f2)
    rw [dget_mem h5 (List.mem_of_getElem? g1)]
    cases ok <;> simp [Instr.lookup, Sem.run_bind, r_tm, hg, K.check, f3, Result.andThen_ok, Sem.run_pure, g3]
  · rw [dget_none (absent_of h2 f1)]
    cases ok <;> simp [Instr.lookup, Sem.run_bind, r_tm, hg, K.check, f2, v_te, Result.andThen_ok]
theorem run_updateG (K : KeyG P tk ek good) (r_tm : ∀ w, (underlying tm).run P w = .ok (.map tk te) w) {w : World} {m : Nat} {d : List (α × β)} (h : MapG ek ev w m d) (hgs : ∀ p ∈ d, good w p.1) (k : α) (hgk : good w k) (v : β) :
    ∃ w', (Instr.mapUpdate tm (.map (some m)) (ek k) (ev v)).run P w = .ok () w' ∧ MapG ek ev w' m (dput d k v) ∧ Fr (· = m) w w' ∧ w'.heap.size = w.heap.size := by
  have hm := h.lt
  obtain ⟨es, c, h1, h2, h3, h4, h5⟩ := h
  have hg : (Sem.run P (getObj m) w) = .ok (.map es c) w := by simp [getObj, Sem.run, h1]
  rcases K.find k w es.toList hgk (entries_keys h2 hgs) with ⟨j, e, f1, f2, f3⟩ | ⟨f1, f2⟩
  · obtain ⟨k', v0, g1, g2, g3⟩ := entry_at h2 f1
    obtain rfl := K.inj (g2.symm.trans f2)
    have hj : j < es.size := by simpa using (List.getElem?_eq_some_iff.1 f1).1
    have hje : es[j] = e := by simpa using (List.getElem?_eq_some_iff.1 f1).2
    have hml := modify_list es j fun e => { e with key := ek k', val := ev v }
    have hm2 : ∀ i x, (es.toList.modify j fun e => { e with key := ek k', val := ev v })[i]? = some x → ∃ y, es.toList[i]? = some y ∧ x.born = y.born ∧ ((x.key, x.val) = if j = i then (ek k', ev v) else (y.key, y.val)) := fun i x hx => by
      rw [List.getElem?_modify] at hx
      cases hy : es.toList[i]? with
      | none => rw [hy] at hx; cases hx
      | some y =>
        rw [hy] at hx
        simp only [Option.map_eq_map, Option.map_some, Option.some.injEq] at hx
        subst hx
        refine ⟨y, rfl, ?_, ?_⟩ <;> split <;> rfl
    refine ⟨setBlock w m (.map (es.modify j fun e => { e with key := ek k', val := ev v }) c), ?_, ⟨es.modify j fun e => { e with key := ek k', val := ev v }, c, setBlock_at hm _, ?_, ?_, ?_, dput_nodup h5 k' v⟩, setBlock_fr _, by simp [setBlock]⟩
    · simp [Instr.mapUpdate, Sem.run_bind, r_tm, hg, K.check, f3, run_setMap h1, Result.andThen_ok, Instr.keyThatStays, Array.getElem?_eq_getElem hj, hje, f2, K.same]
    · rw [← dput_at h5 g1 (v := v), hml]
      refine List.ext_getElem? fun i => ?_
      rw [List.getElem?_map, List.getElem?_map, List.getElem?_modify, List.getElem?_set]
      have h6 : (es.toList.map (fun e => (e.key, e.val)))[i]? = (d.map (fun p => (ek p.1, ev p.2)))[i]? := by rw [h2]
      rw [List.getElem?_map, List.getElem?_map] at h6
      by_cases hij : j = i
      · subst hij
        rw [f1, if_pos rfl, if_pos (List.getElem?_eq_some_iff.1 g1).1]
        simp
      · rw [if_neg hij]
        simp only [hij, if_false]
        cases hy : es.toList[i]? with
        | none => rw [hy] at h6; simpa using h6
        | some y => rw [hy] at h6; simpa using h6
    · intro x hx
      rw [hml] at hx
      obtain ⟨i, hi⟩ := List.getElem?_of_mem hx
      obtain ⟨y, hy, hb, _⟩ := hm2 i x hi
      rw [hb]
      exact h3 y (List.mem_of_getElem? hy)
    · have h7 : (es.modify j fun e => { e with key := ek k', val := ev v }).toList.map (·.born) = es.toList.map (·.born) := by
        rw [hml]
        refine List.ext_getElem? fun i => ?_
        rw [List.getElem?_map, List.getElem?_map, List.getElem?_modify]
        cases es.toList[i]? with
        | none => rfl
        | some y =>
          simp only [Option.map_eq_map, Option.map_some, Option.some.injEq]
          split <;> rfl
      rw [h7]; exact h4
  · have hab := absent_of h2 f1
    have hk : k ∉ d.map Prod.fst := fun hk => by
      obtain ⟨p, hp, e⟩ := List.mem_map.1 hk
      exact hab p hp e
    refine ⟨setBlock w m (.map (es.push { key := ek k, val := ev v, born := c }) (c + 1)), ?_, ⟨es.push { key := ek k, val := ev v, born := c }, c + 1, setBlock_at hm _, ?_, ?_, ?_, dput_nodup h5 k v⟩, setBlock_fr _, by simp [setBlock]⟩
    · simp [Instr.mapUpdate, Sem.run_bind, r_tm, hg, K.check, f2, run_setMap h1, Result.andThen_ok]
    · unfold dput
      rw [if_neg hk, Array.toList_push, List.map_append, List.map_append, h2]
      rfl
    · intro x hx
      rw [Array.toList_push] at hx
      rcases List.mem_append.1 hx with hx | hx
      · have := h3 x hx; omega
      · simp at hx; subst hx; exact Nat.lt_succ_self _
    · rw [Array.toList_push, List.map_append, List.nodup_append]
      refine ⟨h4, by simp, fun a ha b hb e => ?_⟩
      simp at hb
      subst hb
      obtain ⟨x, hx, rfl⟩ := List.mem_map.1 ha
      have := h3 x hx
      omega
theorem run_deleteG (K : KeyG P tk ek good) (r_tm : ∀ w, (underlying tm).run P w = .ok (.map tk te) w) {w : World} {m : Nat} {d : List (α × β)} (h : MapG ek ev w m d) (hgs : ∀ p ∈ d, good w p.1) (k : α) (hgk : good w k) (ty : TypeId) :
    ∃ w', (Builtin.delete_ #[tm, tk] ty #[.map (some m), ek k]).run P w = .ok (.tuple #[]) w' ∧ MapG ek ev w' m (ddel d k) ∧ Fr (· = m) w w' ∧ w'.heap.size = w.heap.size := by
  have hm := h.lt
  obtain ⟨es, c, h1, h2, h3, h4, h5⟩ := h
  have hg : (Sem.run P (getObj m) w) = .ok (.map es c) w := by simp [getObj, Sem.run, h1]
  rcases K.find k w es.toList hgk (entries_keys h2 hgs) with ⟨j, e, f1, f2, f3⟩ | ⟨f1, f2⟩
  · obtain ⟨k', v0, g1, g2, g3⟩ := entry_at h2 f1
    obtain rfl := K.inj (g2.symm.trans f2)
    have hj : j < es.size := by simpa using (List.getElem?_eq_some_iff.1 f1).1
    have hl : (es.eraseIdxIfInBounds j).toList = es.toList.eraseIdx j := by
      unfold Array.eraseIdxIfInBounds
      rw [dif_pos hj]; simp
    refine ⟨setBlock w m (.map (es.eraseIdxIfInBounds j) c), ?_, ⟨es.eraseIdxIfInBounds j, c, setBlock_at hm _, ?_, ?_, ?_, ddel_nodup h5 k'⟩, setBlock_fr _, by simp [setBlock]⟩
    · simp [Builtin.delete_, Sem.run_bind, r_tm, hg, K.check, f3, run_setMap h1, Result.andThen_ok]
    · rw [hl, ← ddel_at h5 g1, map_eraseIdx, map_eraseIdx, h2]
    · intro x hx
      rw [hl] at hx
      exact h3 x (List.mem_of_mem_eraseIdx hx)
    · rw [hl, map_eraseIdx]
      exact h4.sublist (List.eraseIdx_sublist _ _)
  · have hab := absent_of h2 f1
    refine ⟨setBlock w m (.map es c), ?_, ⟨es, c, setBlock_at hm _, by rw [ddel_absent hab]; exact h2, h3, h4, ddel_nodup h5 k⟩, setBlock_fr _, by simp [setBlock]⟩
    simp [Builtin.delete_, Sem.run_bind, r_tm, hg, K.check, f2, run_setMap h1, Result.andThen_ok]
end
end Go.Proofs.Ytgehalfnpbjjcaa
