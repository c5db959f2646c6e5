/- Maps laid bare: keys and elements of any kind; an assoc list says what block m holds; and the laws for the walk. -/
import Derived.Test.YtgehalfnpbjjcaaGreatBase
import Derived.Maps.OwnOps
import Derived.Maps.RangeWalk
import Derived.LaidEqlPtr
namespace Go.Proofs.YtgehalfnpbjjcaaGreat
open Go Go.RowKit
open Go.ChangeMaps (setBlock)
/-- How a kind of key is found. -/
structure KeyG {α : Type} (P : Program) (tk : TypeId) (ek : α → Value) (good : World → α → Prop) : Prop where
  inj : ∀ {a b : α}, ek a = ek b → a = b
  check : ∀ (b : Bool) (a : α) (w : World), (Instr.checkKey b 10000 tk (ek a)).run P w = .ok () w
  find : ∀ (a : α) (w : World) (es : List MapEntry), good w a → (∀ e ∈ es, ∃ b, e.key = ek b ∧ good w b) →
    (∃ j e, es[j]? = some e ∧ e.key = ek a ∧ (Instr.findKey tk (ek a) es).run P w = .ok (some (j, e.val)) w) ∨ ((∀ e ∈ es, e.key ≠ ek a) ∧ (Instr.findKey tk (ek a) es).run P w = .ok none w)
  same : ∀ a : α, Instr.sameBits 10000 (ek a) (ek a) = true
theorem findNow_g {α : Type} [DecidableEq α] {ek : α → Value} {td : TypeDesc} (hs : ∀ a b, Instr.sameNow td (ek a) (ek b) = some (decide (a = b))) (a : α) : ∀ (es : List MapEntry) (i : Nat), (∀ e ∈ es, ∃ b, e.key = ek b) →
    (∃ j e, es[j]? = some e ∧ e.key = ek a ∧ Instr.findNow td (ek a) es i = some (some (i + j, e.val))) ∨ ((∀ e ∈ es, ∀ b, e.key = ek b → b ≠ a) ∧ Instr.findNow td (ek a) es i = some none)
  | [], i, _ => .inr ⟨fun _ h => by simp at h, rfl⟩
  | e :: es, i, h => by
    obtain ⟨b, hb⟩ := h e (by simp)
    by_cases hab : a = b
    · subst hab
      exact .inl ⟨0, e, rfl, hb, by simp [Instr.findNow, hb, hs]⟩
    · have hn : Instr.sameNow td (ek a) e.key = some false := by rw [hb, hs]; simp [hab]
      rcases findNow_g hs a es (i + 1) (fun x hx => h x (by simp [hx])) with ⟨j, x, h1, h2, h3⟩ | ⟨h1, h2⟩
      · exact .inl ⟨j + 1, x, by simpa using h1, h2, by simp only [Instr.findNow, hn, h3]; congr 3; omega⟩
      · refine .inr ⟨fun x hx c hc => ?_, by simp [Instr.findNow, hn, h2]⟩
        rcases List.mem_cons.1 hx with rfl | hx
        · intro e'
          have h9 := hs a c
          rw [← hc, hn] at h9
          subst e'
          simp at h9
        · exact h1 x hx c hc
/-- Keys of a kind that is told apart at once. -/
theorem KeyG.now {α : Type} [DecidableEq α] {P : Program} {tk : TypeId} {ek : α → Value} {td : TypeDesc} (ht : ∀ w, (underlying tk).run P w = .ok td w) (hs : ∀ a b, Instr.sameNow td (ek a) (ek b) = some (decide (a = b)))
    (hc : ∀ (b : Bool) (a : α) (w : World), (Instr.checkKey b 10000 tk (ek a)).run P w = .ok () w) (hb : ∀ a : α, Instr.sameBits 10000 (ek a) (ek a) = true) : KeyG P tk ek (fun _ _ => True) where
  inj := fun {a b} h => by
    have h1 := hs a a
    have h2 := hs a b
    rw [← h, h1] at h2
    simpa using h2
  check := hc
  find := fun a w es _ he => by
    rcases findNow_g hs a es 0 (fun e h => by obtain ⟨b, hb, _⟩ := he e h; exact ⟨b, hb⟩) with ⟨j, e, h1, h2, h3⟩ | ⟨h1, h2⟩
    · refine .inl ⟨j, e, h1, h2, ?_⟩
      rw [Nat.zero_add] at h3
      simp [Instr.findKey, Sem.run_bind, ht, h3, Result.andThen_ok, Sem.run_pure]
    · refine .inr ⟨fun e hm hk => h1 e hm a hk rfl, ?_⟩
      simp [Instr.findKey, Sem.run_bind, ht, h2, Result.andThen_ok, Sem.run_pure]
  same := hb
theorem run_checkS {P : Program} {tk : TypeId} (r_tk : ∀ w, (underlying tk).run P w = .ok .string w) (b : Bool) (n : Nat) (s : ByteArray) (w : World) : (Instr.checkKey b (n + 1) tk (.string s)).run P w = .ok () w := by
  simp [Instr.checkKey, Sem.run_bind, r_tk, Result.andThen_ok, Sem.run_pure]
theorem sameBits_s (n : Nat) (s : ByteArray) : Instr.sameBits n (.string s) (.string s) = true := by
  unfold Instr.sameBits
  exact (MapKept.bytes_beq s s).2 rfl
theorem keyS {P : Program} {tk : TypeId} (r_tk : ∀ w, (underlying tk).run P w = .ok .string w) : KeyG P tk Value.string (fun _ _ => True) :=
  KeyG.now r_tk (fun a b => by
    show some (a == b) = some (decide (a = b))
    congr 1
    rw [Bool.eq_iff_iff, MapKept.bytes_beq, decide_eq_true_eq]) (fun b a w => run_checkS r_tk b 9999 a w) (fun a => sameBits_s 10000 a)
section
/- Assoc lists. -/
variable {α β : Type} [DecidableEq α]
def dget (d : List (α × β)) (k : α) : Option β := (d.find? fun p => decide (p.1 = k)).map (·.2)
def dput (d : List (α × β)) (k : α) (v : β) : List (α × β) := if k ∈ d.map Prod.fst then d.map fun p => if p.1 = k then (k, v) else p else d ++ [(k, v)]
def ddel (d : List (α × β)) (k : α) : List (α × β) := d.filter fun p => !decide (p.1 = k)
theorem map_eraseIdx {γ δ : Type} (f : γ → δ) : ∀ (l : List γ) (j : Nat), (l.eraseIdx j).map f = (l.map f).eraseIdx j
  | [], _ => by simp
  | a :: l, 0 => rfl
  | a :: l, j + 1 => by simp [map_eraseIdx f l j]
theorem dget_none {d : List (α × β)} {k : α} (h : ∀ p ∈ d, p.1 ≠ k) : dget d k = none := by
  unfold dget
  rw [Option.map_eq_none_iff, List.find?_eq_none]
  intro p hp
  simpa using h p hp
theorem dget_mem {d : List (α × β)} {k : α} {v : β} (hn : (d.map Prod.fst).Nodup) (h : (k, v) ∈ d) : dget d k = some v := by
  induction d with
  | nil => simp at h
  | cons a d ih =>
    obtain ⟨ka, va⟩ := a
    simp only [List.map_cons, List.nodup_cons] at hn
    unfold dget
    rw [List.find?_cons]
    by_cases hk : ka = k
    · subst hk
      simp only [decide_true, Option.map_some, Option.some.injEq]
      rcases List.mem_cons.1 h with h | h
      · injection h with _ h; exact h.symm
      · exact absurd (List.mem_map.2 ⟨_, h, rfl⟩) hn.1
    · rw [decide_eq_false hk]
      rcases List.mem_cons.1 h with h | h
      · injection h with h _; exact absurd h.symm hk
      · exact ih hn.2 h
theorem mem_of_dget {d : List (α × β)} {k : α} {v : β} (h : dget d k = some v) : (k, v) ∈ d := by
  unfold dget at h
  rw [Option.map_eq_some_iff] at h
  obtain ⟨p, hp, rfl⟩ := h
  have h1 := List.find?_some hp
  have h2 := List.mem_of_find?_eq_some hp
  simp only [decide_eq_true_eq] at h1
  subst h1
  exact h2
theorem dget_none_iff {d : List (α × β)} {k : α} : dget d k = none ↔ k ∉ d.map Prod.fst := by
  constructor
  · intro h hk
    obtain ⟨p, hp, rfl⟩ := List.mem_map.1 hk
    unfold dget at h
    rw [Option.map_eq_none_iff, List.find?_eq_none] at h
    simpa using h p hp
  · intro h
    exact dget_none fun p hp e => h (List.mem_map.2 ⟨p, hp, e⟩)
theorem dput_keys (d : List (α × β)) (k : α) (v : β) : (dput d k v).map Prod.fst = if k ∈ d.map Prod.fst then d.map Prod.fst else d.map Prod.fst ++ [k] := by
  unfold dput
  split
  · rw [List.map_map]
    refine List.map_congr_left fun p _ => ?_
    simp only [Function.comp]
    split
    · rename_i h; exact h.symm
    · rfl
  · simp
theorem dput_nodup {d : List (α × β)} (hn : (d.map Prod.fst).Nodup) (k : α) (v : β) : ((dput d k v).map Prod.fst).Nodup := by
  rw [dput_keys]
  split
  · exact hn
  · rename_i h
    rw [List.nodup_append]
    exact ⟨hn, by simp, fun a ha b hb e => by simp at hb; subst hb; subst e; exact h ha⟩
theorem ddel_nodup {d : List (α × β)} (hn : (d.map Prod.fst).Nodup) (k : α) : ((ddel d k).map Prod.fst).Nodup :=
  hn.sublist (List.Sublist.map _ List.filter_sublist)
theorem dget_put_self {d : List (α × β)} (hn : (d.map Prod.fst).Nodup) (k : α) (v : β) : dget (dput d k v) k = some v := by
  refine dget_mem (dput_nodup hn k v) ?_
  unfold dput
  split
  · rename_i h
    obtain ⟨p, hp, hk⟩ := List.mem_map.1 h
    exact List.mem_map.2 ⟨p, hp, by rw [if_pos hk]⟩
  · simp
theorem dget_put_ne {d : List (α × β)} (hn : (d.map Prod.fst).Nodup) {k k' : α} (h : k' ≠ k) (v : β) : dget (dput d k v) k' = dget d k' := by
  cases hd : dget d k' with
  | some x =>
    refine dget_mem (dput_nodup hn k v) ?_
    have hm := mem_of_dget hd
    unfold dput
    split
    · exact List.mem_map.2 ⟨_, hm, by rw [if_neg h]⟩
    · exact List.mem_append.2 (.inl hm)
  | none =>
    rw [dget_none_iff] at hd ⊢
    rw [dput_keys]
    split
    · exact hd
    · simp only [List.mem_append, List.mem_singleton, not_or]; exact ⟨hd, h⟩
theorem dget_del_self (d : List (α × β)) (k : α) : dget (ddel d k) k = none := by
  refine dget_none fun p hp => ?_
  unfold ddel at hp
  simpa using (List.mem_filter.1 hp).2
theorem dget_del_ne {d : List (α × β)} (hn : (d.map Prod.fst).Nodup) {k k' : α} (h : k' ≠ k) : dget (ddel d k) k' = dget d k' := by
  cases hd : dget d k' with
  | some x =>
    refine dget_mem (ddel_nodup hn k) ?_
    exact List.mem_filter.2 ⟨mem_of_dget hd, by simpa using h⟩
  | none =>
    rw [dget_none_iff] at hd ⊢
    intro hm
    obtain ⟨p, hp, rfl⟩ := List.mem_map.1 hm
    exact hd (List.mem_map.2 ⟨p, (List.mem_filter.1 hp).1, rfl⟩)
theorem dput_at {d : List (α × β)} (hn : (d.map Prod.fst).Nodup) {j : Nat} {k : α} {v0 v : β} (h : d[j]? = some (k, v0)) : d.set j (k, v) = dput d k v := by
  have hk : k ∈ d.map Prod.fst := List.mem_map.2 ⟨_, List.mem_of_getElem? h, rfl⟩
  unfold dput
  rw [if_pos hk]
  obtain ⟨hj, hje⟩ := List.getElem?_eq_some_iff.1 h
  refine List.ext_getElem (by simp) fun i h1 h2 => ?_
  rw [List.getElem_set, List.getElem_map]
  have hi : i < d.length := by simpa using h1
  by_cases hij : j = i
  · subst hij
    rw [if_pos rfl, hje, if_pos rfl]
  · rw [if_neg hij, if_neg]
    intro e
    have h3 : (d.map Prod.fst)[i]'(by simpa using hi) = (d.map Prod.fst)[j]'(by simpa using hj) := by simp [e, hje]
    exact hij ((List.getElem_inj hn).1 h3).symm
theorem ddel_at {d : List (α × β)} (hn : (d.map Prod.fst).Nodup) {j : Nat} {k : α} {v0 : β} (h : d[j]? = some (k, v0)) : d.eraseIdx j = ddel d k := by
  induction d generalizing j with
  | nil => simp at h
  | cons a d ih =>
    simp only [List.map_cons, List.nodup_cons] at hn
    unfold ddel
    cases j with
    | zero =>
      simp only [List.getElem?_cons_zero, Option.some.injEq] at h
      subst h
      simp only [List.eraseIdx_zero, List.tail_cons, List.filter_cons, decide_true, Bool.not_true, Bool.false_eq_true, if_false]
      symm
      rw [List.filter_eq_self]
      intro p hp
      simp only [Bool.not_eq_true', decide_eq_false_iff_not]
      intro e
      exact hn.1 (List.mem_map.2 ⟨p, hp, e⟩)
    | succ j =>
      have h' : d[j]? = some (k, v0) := by simpa using h
      have ha : a.1 ≠ k := fun e => hn.1 (by rw [e]; exact List.mem_map.2 ⟨_, List.mem_of_getElem? h', rfl⟩)
      rw [List.eraseIdx_cons_succ, List.filter_cons, decide_eq_false ha, ih hn.2 h']
      rfl
theorem ddel_absent {d : List (α × β)} {k : α} (h : ∀ p ∈ d, p.1 ≠ k) : ddel d k = d := by
  unfold ddel
  rw [List.filter_eq_self]
  intro p hp
  simpa using h p hp
end
section
variable {α β : Type} {ek : α → Value} {ev : β → Value}
/-- Block m is a map that holds just d. -/
def MapG (ek : α → Value) (ev : β → Value) (w : World) (m : Nat) (d : List (α × β)) : Prop :=
  ∃ es clock, w.heap[m]? = some (.map es clock) ∧ es.toList.map (fun e => (e.key, e.val)) = d.map (fun p => (ek p.1, ev p.2)) ∧ (∀ e ∈ es.toList, e.born < clock) ∧ (es.toList.map (·.born)).Nodup ∧ (d.map Prod.fst).Nodup
theorem MapG.lt {w : World} {m : Nat} {d : List (α × β)} (h : MapG ek ev w m d) : m < w.heap.size := by
  obtain ⟨es, c, h1, _⟩ := h
  exact lt_of_heap h1
theorem MapG.nodup {w : World} {m : Nat} {d : List (α × β)} (h : MapG ek ev w m d) : (d.map Prod.fst).Nodup := by
  obtain ⟨es, c, _, _, _, _, h5⟩ := h
  exact h5
theorem MapG.fr {w w' : World} {m : Nat} {d : List (α × β)} (h : MapG ek ev w m d) {S : Nat → Prop} (hf : Fr S w w') (hs : ¬ S m) : MapG ek ev w' m d := by
  obtain ⟨es, c, h1, h2⟩ := h
  exact ⟨es, c, hf.heap h1 hs, h2⟩
theorem entry_at {es : Array MapEntry} {d : List (α × β)} (h : es.toList.map (fun e => (e.key, e.val)) = d.map (fun p => (ek p.1, ev p.2))) {j : Nat} {e : MapEntry} (he : es.toList[j]? = some e) : ∃ k v, d[j]? = some (k, v) ∧ e.key = ek k ∧ e.val = ev v := by
  have h1 : (es.toList.map (fun e => (e.key, e.val)))[j]? = some (e.key, e.val) := by rw [List.getElem?_map, he]; rfl
  rw [h, List.getElem?_map, Option.map_eq_some_iff] at h1
  obtain ⟨⟨k, v⟩, h2, h3⟩ := h1
  injection h3 with h3 h4
  exact ⟨k, v, h2, h3.symm, h4.symm⟩
theorem entries_keys {G : α → Prop} {es : Array MapEntry} {d : List (α × β)} (h : es.toList.map (fun e => (e.key, e.val)) = d.map (fun p => (ek p.1, ev p.2))) (hg : ∀ p ∈ d, G p.1) : ∀ e ∈ es.toList, ∃ b, e.key = ek b ∧ G b := fun e he => by
  obtain ⟨j, hj⟩ := List.getElem?_of_mem he
  obtain ⟨k, v, h1, h2, _⟩ := entry_at h hj
  exact ⟨k, h2, hg _ (List.mem_of_getElem? h1)⟩
theorem absent_of {es : Array MapEntry} {d : List (α × β)} (h : es.toList.map (fun e => (e.key, e.val)) = d.map (fun p => (ek p.1, ev p.2))) {k : α} (hk : ∀ e ∈ es.toList, e.key ≠ ek k) : ∀ p ∈ d, p.1 ≠ k := fun p hp e => by
  have h1 : (ek p.1, ev p.2) ∈ es.toList.map (fun e => (e.key, e.val)) := by rw [h]; exact List.mem_map.2 ⟨p, hp, rfl⟩
  obtain ⟨x, hx, hxe⟩ := List.mem_map.1 h1
  injection hxe with hx1 _
  exact hk x hx (by rw [hx1, e])
theorem setBlock_fr {w : World} {m : Nat} (o : Obj) : Fr (· = m) w (setBlock w m o) := ⟨rfl, rfl, rfl, by simp [setBlock], fun q _ hq => by
  show (w.heap.setIfInBounds m _)[q]? = _
  rw [Array.getElem?_setIfInBounds_ne (fun e => hq e.symm)]⟩
theorem setBlock_at {w : World} {m : Nat} (h : m < w.heap.size) (o : Obj) : (setBlock w m o).heap[m]? = some o := by
  show (w.heap.setIfInBounds m _)[m]? = _
  rw [Array.getElem?_setIfInBounds_self_of_lt h]
theorem run_setMap {P : Program} {w : World} {m : Nat} {es : Array MapEntry} {c : Nat} (h1 : w.heap[m]? = some (.map es c)) (es' : Array MapEntry) (c' : Nat) : (Sem.run P (setObj m (.map es' c')) w) = .ok () (setBlock w m (.map es' c')) := by simp [setObj, Sem.run, h1, setBlock]
theorem modify_list (es : Array MapEntry) (j : Nat) (f : MapEntry → MapEntry) : (es.modify j f).toList = es.toList.modify j f := by
  refine List.ext_getElem? fun i => ?_
  rw [Array.getElem?_toList, List.getElem?_modify]
  rw [Array.getElem?_modify]
  simp only [Array.getElem?_toList]
  split <;> simp_all
theorem MapG.made {w : World} : MapG ek ev (w.alloc (.map #[] 0)) w.heap.size [] := ⟨#[], 0, heap_alloc_new w _, rfl, by simp, by simp, by simp⟩
end
section
variable {α β : Type} [DecidableEq α] {P : Program} {tm tk te : TypeId} {ek : α → Value} {ev : β → Value} {good : World → α → Prop}
theorem run_lookupG (K : KeyG P tk ek good) (r_tm : ∀ w, (underlying tm).run P w = .ok (.map tk te) w) {z : Value} (v_te : ∀ w, (zeroValue te).run P w = .ok z w) {w : World} {m : Nat} {d : List (α × β)} (h : MapG ek ev w m d) (hgs : ∀ p ∈ d, good w p.1) (k : α) (hgk : good w k) (ok : Bool) :
    (Instr.lookup tm (.map (some m)) (ek k) ok).run P w = .ok (match dget d k with | some v => if ok then .tuple #[ev v, .bool true] else ev v | none => if ok then .tuple #[z, .bool false] else z) w := by
  obtain ⟨es, c, h1, h2, h3, h4, h5⟩ := h
  have hg : (Sem.run P (getObj m) w) = .ok (.map es c) w := by simp [getObj, Sem.run, h1]
  rcases K.find k w es.toList hgk (entries_keys h2 hgs) with ⟨j, e, f1, f2, f3⟩ | ⟨f1, f2⟩
  · obtain ⟨k', v, g1, g2, g3⟩ := entry_at h2 f1
    obtain rfl := K.inj (g2.symm.trans f2)
    rw [dget_mem h5 (List.mem_of_getElem? g1)]
    cases ok <;> simp [Instr.lookup, Sem.run_bind, r_tm, hg, K.check, f3, Result.andThen_ok, Sem.run_pure, g3]
  · rw [dget_none (absent_of h2 f1)]
    cases ok <;> simp [Instr.lookup, Sem.run_bind, r_tm, hg, K.check, f2, v_te, Result.andThen_ok]
theorem run_updateG (K : KeyG P tk ek good) (r_tm : ∀ w, (underlying tm).run P w = .ok (.map tk te) w) {w : World} {m : Nat} {d : List (α × β)} (h : MapG ek ev w m d) (hgs : ∀ p ∈ d, good w p.1) (k : α) (hgk : good w k) (v : β) :
    ∃ w', (Instr.mapUpdate tm (.map (some m)) (ek k) (ev v)).run P w = .ok () w' ∧ MapG ek ev w' m (dput d k v) ∧ Fr (· = m) w w' ∧ w'.heap.size = w.heap.size := by
  have hm := h.lt
  obtain ⟨es, c, h1, h2, h3, h4, h5⟩ := h
  have hg : (Sem.run P (getObj m) w) = .ok (.map es c) w := by simp [getObj, Sem.run, h1]
  rcases K.find k w es.toList hgk (entries_keys h2 hgs) with ⟨j, e, f1, f2, f3⟩ | ⟨f1, f2⟩
  · obtain ⟨k', v0, g1, g2, g3⟩ := entry_at h2 f1
    obtain rfl := K.inj (g2.symm.trans f2)
    have hj : j < es.size := by simpa using (List.getElem?_eq_some_iff.1 f1).1
    have hje : es[j] = e := by simpa using (List.getElem?_eq_some_iff.1 f1).2
    have hml := modify_list es j fun e => { e with key := ek k', val := ev v }
    have hm2 : ∀ i x, (es.toList.modify j fun e => { e with key := ek k', val := ev v })[i]? = some x → ∃ y, es.toList[i]? = some y ∧ x.born = y.born ∧ ((x.key, x.val) = if j = i then (ek k', ev v) else (y.key, y.val)) := fun i x hx => by
      rw [List.getElem?_modify] at hx
      cases hy : es.toList[i]? with
      | none => rw [hy] at hx; cases hx
      | some y =>
        rw [hy] at hx
        simp only [Option.map_eq_map, Option.map_some, Option.some.injEq] at hx
        subst hx
        refine ⟨y, rfl, ?_, ?_⟩ <;> split <;> rfl
    refine ⟨setBlock w m (.map (es.modify j fun e => { e with key := ek k', val := ev v }) c), ?_, ⟨es.modify j fun e => { e with key := ek k', val := ev v }, c, setBlock_at hm _, ?_, ?_, ?_, dput_nodup h5 k' v⟩, setBlock_fr _, by simp [setBlock]⟩
    · simp [Instr.mapUpdate, Sem.run_bind, r_tm, hg, K.check, f3, run_setMap h1, Result.andThen_ok, Instr.keyThatStays, Array.getElem?_eq_getElem hj, hje, f2, K.same]
    · rw [← dput_at h5 g1 (v := v), hml]
      refine List.ext_getElem? fun i => ?_
      rw [List.getElem?_map, List.getElem?_map, List.getElem?_modify, List.getElem?_set]
      have h6 : (es.toList.map (fun e => (e.key, e.val)))[i]? = (d.map (fun p => (ek p.1, ev p.2)))[i]? := by rw [h2]
      rw [List.getElem?_map, List.getElem?_map] at h6
      by_cases hij : j = i
      · subst hij
        rw [f1, if_pos rfl, if_pos (List.getElem?_eq_some_iff.1 g1).1]
        simp
      · rw [if_neg hij]
        simp only [hij, if_false]
        cases hy : es.toList[i]? with
        | none => rw [hy] at h6; simpa using h6
        | some y => rw [hy] at h6; simpa using h6
    · intro x hx
      rw [hml] at hx
      obtain ⟨i, hi⟩ := List.getElem?_of_mem hx
      obtain ⟨y, hy, hb, _⟩ := hm2 i x hi
      rw [hb]
      exact h3 y (List.mem_of_getElem? hy)
    · have h7 : (es.modify j fun e => { e with key := ek k', val := ev v }).toList.map (·.born) = es.toList.map (·.born) := by
        rw [hml]
        refine List.ext_getElem? fun i => ?_
        rw [List.getElem?_map, List.getElem?_map, List.getElem?_modify]
        cases es.toList[i]? with
        | none => rfl
        | some y =>
          simp only [Option.map_eq_map, Option.map_some, Option.some.injEq]
          split <;> rfl
      rw [h7]; exact h4
  · have hab := absent_of h2 f1
    have hk : k ∉ d.map Prod.fst := fun hk => by
      obtain ⟨p, hp, e⟩ := List.mem_map.1 hk
      exact hab p hp e
    refine ⟨setBlock w m (.map (es.push { key := ek k, val := ev v, born := c }) (c + 1)), ?_, ⟨es.push { key := ek k, val := ev v, born := c }, c + 1, setBlock_at hm _, ?_, ?_, ?_, dput_nodup h5 k v⟩, setBlock_fr _, by simp [setBlock]⟩
    · simp [Instr.mapUpdate, Sem.run_bind, r_tm, hg, K.check, f2, run_setMap h1, Result.andThen_ok]
    · unfold dput
      rw [if_neg hk, Array.toList_push, List.map_append, List.map_append, h2]
      rfl
    · intro x hx
      rw [Array.toList_push] at hx
      rcases List.mem_append.1 hx with hx | hx
      · have := h3 x hx; omega
      · simp at hx; subst hx; exact Nat.lt_succ_self _
    · rw [Array.toList_push, List.map_append, List.nodup_append]
      refine ⟨h4, by simp, fun a ha b hb e => ?_⟩
      simp at hb
      subst hb
      obtain ⟨x, hx, rfl⟩ := List.mem_map.1 ha
      have := h3 x hx
      omega
theorem run_deleteG (K : KeyG P tk ek good) (r_tm : ∀ w, (underlying tm).run P w = .ok (.map tk te) w) {w : World} {m : Nat} {d : List (α × β)} (h : MapG ek ev w m d) (hgs : ∀ p ∈ d, good w p.1) (k : α) (hgk : good w k) (ty : TypeId) :
    ∃ w', (Builtin.delete_ #[tm, tk] ty #[.map (some m), ek k]).run P w = .ok (.tuple #[]) w' ∧ MapG ek ev w' m (ddel d k) ∧ Fr (· = m) w w' ∧ w'.heap.size = w.heap.size := by
  have hm := h.lt
  obtain ⟨es, c, h1, h2, h3, h4, h5⟩ := h
  have hg : (Sem.run P (getObj m) w) = .ok (.map es c) w := by simp [getObj, Sem.run, h1]
  rcases K.find k w es.toList hgk (entries_keys h2 hgs) with ⟨j, e, f1, f2, f3⟩ | ⟨f1, f2⟩
  · obtain ⟨k', v0, g1, g2, g3⟩ := entry_at h2 f1
    obtain rfl := K.inj (g2.symm.trans f2)
    have hj : j < es.size := by simpa using (List.getElem?_eq_some_iff.1 f1).1
    have hl : (es.eraseIdxIfInBounds j).toList = es.toList.eraseIdx j := by
      unfold Array.eraseIdxIfInBounds
      rw [dif_pos hj]; simp
    refine ⟨setBlock w m (.map (es.eraseIdxIfInBounds j) c), ?_, ⟨es.eraseIdxIfInBounds j, c, setBlock_at hm _, ?_, ?_, ?_, ddel_nodup h5 k'⟩, setBlock_fr _, by simp [setBlock]⟩
    · simp [Builtin.delete_, Sem.run_bind, r_tm, hg, K.check, f3, run_setMap h1, Result.andThen_ok]
    · rw [hl, ← ddel_at h5 g1, map_eraseIdx, map_eraseIdx, h2]
    · intro x hx
      rw [hl] at hx
      exact h3 x (List.mem_of_mem_eraseIdx hx)
    · rw [hl, map_eraseIdx]
      exact h4.sublist (List.eraseIdx_sublist _ _)
  · have hab := absent_of h2 f1
    refine ⟨setBlock w m (.map es c), ?_, ⟨es, c, setBlock_at hm _, by rw [ddel_absent hab]; exact h2, h3, h4, ddel_nodup h5 k⟩, setBlock_fr _, by simp [setBlock]⟩
    simp [Builtin.delete_, Sem.run_bind, r_tm, hg, K.check, f2, run_setMap h1, Result.andThen_ok]
end
end Go.Proofs.YtgehalfnpbjjcaaGreat
/- Maps laid bare: ranging; and the laws for the walk. -/
namespace Go.Proofs.YtgehalfnpbjjcaaGreat
open Go Go.RowKit
open Go.ChangeMaps (setBlock)
theorem filter_born {e : MapEntry} : ∀ {l : List MapEntry} {j : Nat}, (l.map (·.born)).Nodup → l[j]? = some e → l.filter (fun x => !(x.born == e.born)) = l.eraseIdx j
  | [], _, _, h => by simp at h
  | a :: l, 0, hn, h => by
    simp only [List.getElem?_cons_zero, Option.some.injEq] at h
    subst h
    have hn' := List.nodup_cons.1 hn
    simp only [List.eraseIdx_zero, List.tail_cons, List.filter_cons, beq_self_eq_true, Bool.not_true, Bool.false_eq_true, if_false]
    rw [List.filter_eq_self]
    intro x hx
    simp only [Bool.not_eq_true', beq_eq_false_iff_ne]
    exact fun h => hn'.1 (List.mem_map.2 ⟨x, hx, h⟩)
  | a :: l, j + 1, hn, h => by
    have hn' := List.nodup_cons.1 hn
    have h' : l[j]? = some e := by simpa using h
    have ha : (a.born == e.born) = false := by
      rw [beq_eq_false_iff_ne]
      exact fun h => hn'.1 (List.mem_map.2 ⟨e, List.mem_of_getElem? h', h.symm⟩)
    rw [List.eraseIdx_cons_succ, List.filter_cons, ha, filter_born hn'.2 h']
    rfl
theorem perm_eraseIdx {γ : Type} {x : γ} : ∀ {l : List γ} {j : Nat}, l[j]? = some x → l.Perm (x :: l.eraseIdx j)
  | [], _, h => by simp at h
  | a :: l, 0, h => by
    simp only [List.getElem?_cons_zero, Option.some.injEq] at h
    subst h
    exact List.Perm.refl _
  | a :: l, j + 1, h => by
    have h' : l[j]? = some x := by simpa using h
    rw [List.eraseIdx_cons_succ]
    exact ((perm_eraseIdx h').cons a).trans (List.Perm.swap x a _)
section
variable {α β : Type} {ek : α → Value} {ev : β → Value}
/-- Block r goes over map m, which holds d: rest is still to come. -/
def IterG (ek : α → Value) (ev : β → Value) (w : World) (m r : Nat) (d rest : List (α × β)) : Prop :=
  ∃ es clock since seen c0, w.heap[m]? = some (.map es clock) ∧ es.toList.map (fun e => (e.key, e.val)) = d.map (fun p => (ek p.1, ev p.2)) ∧ (∀ e ∈ es.toList, e.born < clock) ∧ (es.toList.map (·.born)).Nodup ∧ (d.map Prod.fst).Nodup ∧
    w.heap[r]? = some (.mapIter (some m) since seen c0) ∧ (∀ e ∈ es.toList, e.born < since) ∧ since ≤ c0 ∧ since ≤ clock ∧
    (es.toList.filter (fun e => !seen.contains e.born)).map (fun e => (e.key, e.val)) = rest.map (fun p => (ek p.1, ev p.2)) ∧ ∀ p ∈ rest, p ∈ d
theorem IterG.map {w : World} {m r : Nat} {d rest : List (α × β)} (h : IterG ek ev w m r d rest) : MapG ek ev w m d := by
  obtain ⟨es, clock, since, seen, c0, h1, h2, h3, h4, h5, _⟩ := h
  exact ⟨es, clock, h1, h2, h3, h4, h5⟩
theorem IterG.ne {w : World} {m r : Nat} {d rest : List (α × β)} (h : IterG ek ev w m r d rest) : r ≠ m := by
  obtain ⟨es, clock, since, seen, c0, h1, _, _, _, _, h6, _⟩ := h
  intro e
  rw [e, h1] at h6
  cases h6
theorem IterG.lt {w : World} {m r : Nat} {d rest : List (α × β)} (h : IterG ek ev w m r d rest) : r < w.heap.size := by
  obtain ⟨es, clock, since, seen, c0, h1, _, _, _, _, h6, _⟩ := h
  exact lt_of_heap h6
theorem IterG.fr {w w' : World} {m r : Nat} {d rest : List (α × β)} (h : IterG ek ev w m r d rest) {S : Nat → Prop} (hf : Fr S w w') (hm : ¬ S m) (hr : ¬ S r) : IterG ek ev w' m r d rest := by
  obtain ⟨es, clock, since, seen, c0, h1, h2, h3, h4, h5, h6, h7⟩ := h
  exact ⟨es, clock, since, seen, c0, hf.heap h1 hm, h2, h3, h4, h5, hf.heap h6 hr, h7⟩
theorem MapG.range {P : Program} {tm tk te : TypeId} (u_tm : P.underlying tm = some (.map tk te)) {w : World} {m : Nat} {d : List (α × β)} (h : MapG ek ev w m d) :
    ∃ w', (Instr.range tm (.map (some m))).run P w = .ok (.pointer (some ⟨w.heap.size, 0, none⟩)) w' ∧ IterG ek ev w' m w.heap.size d d ∧ Below w.heap.size w w' ∧ w'.heap.size = w.heap.size + 1 := by
  have hm := h.lt
  obtain ⟨es, c, h1, h2, h3, h4, h5⟩ := h
  refine ⟨_, run_range_map w tm tk te m es c u_tm h1, ⟨es, c, c, #[], c, (heap_alloc_old w _ hm).trans h1, h2, h3, h4, h5, heap_alloc_new w _, h3, Nat.le_refl _, Nat.le_refl _, ?_, fun _ h => h⟩, (Below.refl _ _).alloc (Nat.le_refl _) _, by simp⟩
  rw [← h2]
  congr 1
  rw [List.filter_eq_self]
  intro e _
  simp
/-- The step. -/
theorem IterG.next {P : Program} {w : World} {m r : Nat} {d rest : List (α × β)} (h : IterG ek ev w m r d rest) (ty : TypeId) :
    (rest = [] ∧ (Instr.next (.pointer (some ⟨r, 0, none⟩)) false ty).run P w = .ok (.tuple #[.bool false]) w) ∨
    ∃ k v rest' w', rest.Perm ((k, v) :: rest') ∧ (Instr.next (.pointer (some ⟨r, 0, none⟩)) false ty).run P w = .ok (.tuple #[.bool true, ek k, ev v]) w' ∧ IterG ek ev w' m r d rest' ∧ Fr (· = r) w w' ∧ w'.heap.size = w.heap.size ∧
      ∀ W, Fr (fun i => i ≠ m ∧ i ≠ r) w' W → (Instr.entry (.pointer (some ⟨r, 0, none⟩))).run P W = .ok (.tuple #[ek k, ev v]) W := by
  have hne := h.ne
  have hrl := h.lt
  obtain ⟨es, clock, since, seen, c0, h1, h2, h3, h4, h5, h6, h7, h8, h9, h10, h11⟩ := h
  have hleft : (leftOf es seen).toList = es.toList.filter (fun e => !seen.contains e.born) := by unfold leftOf; simp
  rcases run_next_at (P := P) w ty r m since c0 seen es clock h6 h1 h7 h8 with ⟨h0, hrun⟩ | ⟨e, he, w1, hal, hrun⟩
  · refine .inl ⟨?_, hrun⟩
    have hz : (leftOf es seen).toList = [] := by
      have : (leftOf es seen) = #[] := Array.eq_empty_of_size_eq_zero h0
      rw [this]
    rw [hleft] at hz
    rw [hz] at h10
    simpa using h10.symm
  · obtain ⟨hem, hes⟩ := mem_left he
    rw [hleft] at he
    obtain ⟨j, hj⟩ := List.getElem?_of_mem he
    have hkv : ∃ k v, rest[j]? = some (k, v) ∧ e.key = ek k ∧ e.val = ev v := by
      have g1 : ((es.toList.filter (fun e => !seen.contains e.born)).map (fun e => (e.key, e.val)))[j]? = some (e.key, e.val) := by rw [List.getElem?_map, hj]; rfl
      rw [h10, List.getElem?_map, Option.map_eq_some_iff] at g1
      obtain ⟨⟨k, v⟩, g2, g3⟩ := g1
      injection g3 with g3 g4
      exact ⟨k, v, g2, g3.symm, g4.symm⟩
    obtain ⟨k, v, hr, hk, hv⟩ := hkv
    have e6 : w1.heap[r]? = some (.mapIter (some m) since seen c0) := by rcases hal with rfl | rfl <;> exact h6
    have e1 : w1.heap[m]? = some (.map es clock) := by rcases hal with rfl | rfl <;> exact h1
    have hsz : w1.heap.size = w.heap.size := by rcases hal with rfl | rfl <;> rfl
    have hfw : Fr (· = r) w w1 := by rcases hal with rfl | rfl; exact Fr.refl _ _; exact (Fr.refl _ _).drew
    have hm' : (setBlock w1 r (.mapIter (some m) since (seen.push e.born) clock)).heap[m]? = some (.map es clock) := (setBlock_fr (w := w1) (m := r) _).heap e1 (fun e => hne e.symm)
    have hr' := setBlock_at (w := w1) (m := r) (by rw [hsz]; exact hrl) (.mapIter (some m) since (seen.push e.born) clock)
    refine .inr ⟨k, v, rest.eraseIdx j, _, perm_eraseIdx hr, by rw [hrun, hk, hv], ⟨es, clock, since, seen.push e.born, clock, hm', h2, h3, h4, h5, hr', h7, h9, h9, ?_, fun p hp => h11 p (List.mem_of_mem_eraseIdx hp)⟩, hfw.trans (setBlock_fr _), by simp [setBlock, hsz], fun W hW => ?_⟩
    · rw [map_eraseIdx, ← h10, ← map_eraseIdx]
      congr 1
      rw [← filter_born (h4.sublist (List.Sublist.map _ List.filter_sublist)) hj, List.filter_filter]
      congr 1
      funext x
      rw [contains_push]
      cases seen.contains x.born <;> cases (x.born == e.born) <;> rfl
    · rw [← hk, ← hv]
      exact run_entry_at W r m since seen es clock e (hW.heap hr' (fun h => h.2 rfl)) (hW.heap hm' (fun h => h.1 rfl)) hem h4
end
section
variable {P : Program} {w : World} {ops : Array Oper} {rest : List Oper} {o : Oper} {a : Act} {Q : Exit → Act → World → Prop}
variable {α β : Type} [DecidableEq α] {tm tk te : TypeId} {ek : α → Value} {ev : β → Value} {good : World → α → Prop}
theorem wpl_lookupG (hgd : o.guard = none) {x kk : Operand} (ho : o.op = .lookup tm x kk false) (K : KeyG P tk ek good) (r_tm : ∀ w, (underlying tm).run P w = .ok (.map tk te) w) {z : Value} (v_te : ∀ w, (zeroValue te).run P w = .ok z w)
    {m : Nat} {d : List (α × β)} (h : MapG ek ev w m d) (hgs : ∀ p ∈ d, good w p.1) {k : α} (hgk : good w k) (hx : a.eval x = .map (some m)) (hk : a.eval kk = ek k)
    (hK : wpList P ops Q rest (a.put o.dst (match dget d k with | some v => ev v | none => z)) w) : wpList P ops Q (o :: rest) a w := by
  refine wpList_plain hgd fun K' hK' => ?_
  have hr := run_lookupG (ok := false) K r_tm v_te h hgs k hgk
  unfold Oper.wp
  simp only [execOp, ho, hx, hk, Sem.run_bind, hr, Result.andThen_ok, Sem.run_pure]
  refine hK' _ _ ?_
  cases hd : dget d k <;> (rw [hd] at hK; exact hK)
theorem wpl_lookupokG (hgd : o.guard = none) {x kk : Operand} (ho : o.op = .lookup tm x kk true) (K : KeyG P tk ek good) (r_tm : ∀ w, (underlying tm).run P w = .ok (.map tk te) w) {z : Value} (v_te : ∀ w, (zeroValue te).run P w = .ok z w)
    {m : Nat} {d : List (α × β)} (h : MapG ek ev w m d) (hgs : ∀ p ∈ d, good w p.1) {k : α} (hgk : good w k) (hx : a.eval x = .map (some m)) (hk : a.eval kk = ek k)
    (hK : wpList P ops Q rest (a.put o.dst (match dget d k with | some v => .tuple #[ev v, .bool true] | none => .tuple #[z, .bool false])) w) : wpList P ops Q (o :: rest) a w := by
  refine wpList_plain hgd fun K' hK' => ?_
  have hr := run_lookupG (ok := true) K r_tm v_te h hgs k hgk
  unfold Oper.wp
  simp only [execOp, ho, hx, hk, Sem.run_bind, hr, Result.andThen_ok, Sem.run_pure]
  refine hK' _ _ ?_
  cases hd : dget d k <;> (rw [hd] at hK; exact hK)
theorem wpl_updateG (hgd : o.guard = none) {x kk y : Operand} (ho : o.op = .mapUpdate tm x kk y) (K : KeyG P tk ek good) (r_tm : ∀ w, (underlying tm).run P w = .ok (.map tk te) w)
    {m : Nat} {d : List (α × β)} (h : MapG ek ev w m d) (hgs : ∀ p ∈ d, good w p.1) {k : α} (hgk : good w k) {v : β} (hx : a.eval x = .map (some m)) (hk : a.eval kk = ek k) (hy : a.eval y = ev v)
    (hK : ∀ w', MapG ek ev w' m (dput d k v) → Fr (· = m) w w' → w'.heap.size = w.heap.size → wpList P ops Q rest (a.put o.dst undef) w') : wpList P ops Q (o :: rest) a w := by
  refine wpList_plain hgd fun K' hK' => ?_
  obtain ⟨w', hr, h1, h2, h3⟩ := run_updateG K r_tm h hgs k hgk v
  unfold Oper.wp
  simp only [execOp, ho, hx, hk, hy, Sem.run_bind, hr, Result.andThen_ok, Sem.run_pure]
  exact hK' _ _ (hK w' h1 h2 h3)
theorem wpl_deleteG (hgd : o.guard = none) {x kk : Operand} (ho : o.op = Op.call { callee := Callee.builtin Builtin.delete, args := #[x, kk], argTypes := #[tm, tk] }) (K : KeyG P tk ek good) (r_tm : ∀ w, (underlying tm).run P w = .ok (.map tk te) w)
    {m : Nat} {d : List (α × β)} (h : MapG ek ev w m d) (hgs : ∀ p ∈ d, good w p.1) {k : α} (hgk : good w k) (hx : a.eval x = .map (some m)) (hk : a.eval kk = ek k)
    (hK : ∀ w', MapG ek ev w' m (ddel d k) → Fr (· = m) w w' → w'.heap.size = w.heap.size → wpList P ops Q rest (a.put o.dst (.tuple #[])) w') : wpList P ops Q (o :: rest) a w := by
  refine wpList_plain hgd fun K' hK' => ?_
  obtain ⟨w', hr, h1, h2, h3⟩ := run_deleteG K r_tm h hgs k hgk o.type
  unfold Oper.wp
  simp [execOp, ho, resolve, invoke, builtin, hx, hk, hr, Result.andThen]
  exact hK' _ _ (hK w' h1 h2 h3)
end
section
variable {P : Program} {w : World} {ops : Array Oper} {rest : List Oper} {o : Oper} {a : Act} {Q : Exit → Act → World → Prop}
variable {α β : Type} {tm tk te : TypeId} {ek : α → Value} {ev : β → Value}
theorem wpl_rangeG (hgd : o.guard = none) {x : Operand} (ho : o.op = Op.range tm x) (u_tm : P.underlying tm = some (.map tk te)) {m : Nat} {d : List (α × β)} (h : MapG ek ev w m d) (hx : a.eval x = .map (some m))
    (hK : ∀ w', IterG ek ev w' m w.heap.size d d → Below w.heap.size w w' → w'.heap.size = w.heap.size + 1 → wpList P ops Q rest (a.put o.dst (.pointer (some ⟨w.heap.size, 0, none⟩))) w') : wpList P ops Q (o :: rest) a w := by
  refine wpList_plain hgd fun K' hK' => ?_
  obtain ⟨w', hrun, r1, r2, r3⟩ := h.range u_tm
  unfold Oper.wp
  simp [execOp, ho, hx, hrun, Result.andThen]
  exact hK' _ _ (hK w' r1 r2 r3)
theorem wpl_nextG (hgd : o.guard = none) {x : Operand} (ho : o.op = Op.next x false) {m r : Nat} {d left : List (α × β)} (h : IterG ek ev w m r d left) (hx : a.eval x = .pointer (some ⟨r, 0, none⟩))
    (hDone : left = [] → wpList P ops Q rest (a.put o.dst (.tuple #[.bool false])) w)
    (hMore : ∀ k v left' w', left.Perm ((k, v) :: left') → IterG ek ev w' m r d left' → Fr (· = r) w w' → w'.heap.size = w.heap.size → (∀ W, Fr (fun i => i ≠ m ∧ i ≠ r) w' W → (Instr.entry (.pointer (some ⟨r, 0, none⟩))).run P W = .ok (.tuple #[ek k, ev v]) W) →
      wpList P ops Q rest (a.put o.dst (.tuple #[.bool true, ek k, ev v])) w') : wpList P ops Q (o :: rest) a w := by
  refine wpList_plain hgd fun K' hK' => ?_
  unfold Oper.wp
  rcases h.next (P := P) o.type with ⟨h0, hrun⟩ | ⟨k, v, left', w', h1, hrun, h2, h3, h4, h5⟩
  · simp [execOp, ho, hx, hrun, Result.andThen]
    exact hK' _ _ (hDone h0)
  · simp [execOp, ho, hx, hrun, Result.andThen]
    exact hK' _ _ (hMore k v left' w' h1 h2 h3 h4 h5)
end
end Go.Proofs.YtgehalfnpbjjcaaGreat
/- Maps whose keys are pointers to the first cell of a block. -/
namespace Go.Proofs.YtgehalfnpbjjcaaGreat
open Go Go.RowKit
def ekP (p : Nat) : Value := .pointer (some ⟨p, 0, none⟩)
theorem ekP_inj {a b : Nat} (h : ekP a = ekP b) : a = b := by
  unfold ekP at h
  injection h with h
  injection h with h
  injection h with h _ _
theorem findAsk_p {P : Program} {tk : TypeId} {good : World → Nat → Prop} {w : World} (heq : ∀ (a b : Nat), good w a → good w b → (Op.equal tk (ekP a) (ekP b)).run P w = .ok (decide (a = b)) w) {a : Nat} (ha : good w a) : ∀ (es : List MapEntry) (i : Nat), (∀ e ∈ es, ∃ b, e.key = ekP b ∧ good w b) →
    (∃ j e, es[j]? = some e ∧ e.key = ekP a ∧ (Instr.findAsking tk (ekP a) es i).run P w = .ok (some (i + j, e.val)) w) ∨ ((∀ e ∈ es, e.key ≠ ekP a) ∧ (Instr.findAsking tk (ekP a) es i).run P w = .ok none w)
  | [], i, _ => .inr ⟨fun _ h => by simp at h, rfl⟩
  | e :: es, i, h => by
    obtain ⟨b, hb, hgb⟩ := h e (by simp)
    have heqb := heq a b ha hgb
    by_cases hab : a = b
    · subst hab
      exact .inl ⟨0, e, rfl, hb, by simp [Instr.findAsking, hb, Sem.run_bind, heqb, Result.andThen_ok, Sem.run_pure]⟩
    · rcases findAsk_p heq ha es (i + 1) (fun x hx => h x (by simp [hx])) with ⟨j, x, h1, h2, h3⟩ | ⟨h1, h2⟩
      · exact .inl ⟨j + 1, x, by simpa using h1, h2, by simp only [Instr.findAsking, hb, Sem.run_bind, heqb, hab, Result.andThen_ok, decide_false, Bool.false_eq_true, if_false, h3]; congr 3; omega⟩
      · refine .inr ⟨fun x hx => ?_, by simp [Instr.findAsking, hb, Sem.run_bind, heqb, hab, Result.andThen_ok, h2]⟩
        rcases List.mem_cons.1 hx with rfl | hx
        · rw [hb]; exact fun e => hab (ekP_inj e).symm
        · exact h1 x hx
/-- Block p is a row of cells. -/
def RowAt (w : World) (p : Nat) : Prop := ∃ cs t, w.heap[p]? = some (.cells cs t (0, 0))
theorem RowAt.fr {w w' : World} {p : Nat} (h : RowAt w p) {S : Nat → Prop} (hf : Fr S w w') (hs : ¬ S p) : RowAt w' p := by
  obtain ⟨cs, t, h⟩ := h
  exact ⟨cs, t, hf.heap h hs⟩
theorem eq_p {P : Program} {tk e : TypeId} {j : TypeInfo} (hp : P.underlying tk = some (.pointer e)) (hte : P.info? e = some j) (hsz : j.size ≠ 0) {w : World} (a b : Nat) (ha : RowAt w a) (hb : RowAt w b) :
    (Op.equal tk (ekP a) (ekP b)).run P w = .ok (decide (a = b)) w := by
  obtain ⟨ca, ta, ha⟩ := ha
  obtain ⟨cb, tb, hb⟩ := hb
  unfold ekP
  by_cases hab : a = b
  · subst hab
    have h : ∀ d : Nat, (Op.equalIn (d + 1) tk (.pointer (some ⟨a, 0, none⟩)) (.pointer (some ⟨a, 0, none⟩))).run P w = .ok true w := fun d => by
      simp [Op.equalIn, run_underlying hp, sizeOf, typeInfo, hte, run_sameAddr_same]
    simp [Op.equal, Op.maxDepth, h 9999]
  · have hne : (⟨a, 0, none⟩ : Addr) ≠ ⟨b, 0, none⟩ := fun e => hab (by injection e)
    have h : ∀ d : Nat, (Op.equalIn (d + 1) tk (.pointer (some ⟨a, 0, none⟩)) (.pointer (some ⟨b, 0, none⟩))).run P w = .ok false w := fun d => by
      simp [Op.equalIn, run_underlying hp, sizeOf, typeInfo, hte, hsz, run_sameAddr_other w hne ha hb]
    simp [Op.equal, Op.maxDepth, h 9999, hab]
theorem keyP {P : Program} {tk e : TypeId} {j : TypeInfo} (hp : P.underlying tk = some (.pointer e)) (hte : P.info? e = some j) (hsz : j.size ≠ 0) : KeyG P tk ekP RowAt where
  inj := ekP_inj
  check := fun b a w => by
    have r_tk := fun w => run_underlying hp w
    have h : ∀ n, (Instr.checkKey b (n + 1) tk (ekP a)).run P w = .ok () w := fun n => by simp [Instr.checkKey, ekP, Sem.run_bind, r_tk, Result.andThen_ok, Sem.run_pure]
    exact h 9999
  find := fun a w es ha he => by
    have r_tk := fun w => run_underlying hp w
    cases es with
    | nil => exact .inr ⟨fun _ h => by simp at h, by simp [Instr.findKey, Instr.findNow, r_tk, Result.andThen_ok]⟩
    | cons x es =>
      obtain ⟨b, hb, _⟩ := he x (by simp)
      have hn : Instr.findNow (.pointer e) (ekP a) (x :: es) 0 = none := by simp [Instr.findNow, Instr.sameNow]
      have hf : (Instr.findKey tk (ekP a) (x :: es)).run P w = (Instr.findAsking tk (ekP a) (x :: es) 0).run P w := by simp [Instr.findKey, Sem.run_bind, r_tk, Result.andThen_ok, hn]
      rw [hf]
      rcases findAsk_p (good := RowAt) (fun a b ha hb => eq_p hp hte hsz a b ha hb) ha (x :: es) 0 he with ⟨j, y, h1, h2, h3⟩ | h
      · exact .inl ⟨j, y, h1, h2, by rw [h3, Nat.zero_add]⟩
      · exact .inr h
  same := fun a => by
    show Instr.sameBits 10000 (.pointer (some ⟨a, 0, none⟩)) (.pointer (some ⟨a, 0, none⟩)) = true
    unfold Instr.sameBits
    exact beq_self_eq_true _
end Go.Proofs.YtgehalfnpbjjcaaGreat
