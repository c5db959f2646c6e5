/- How a file system of simfs lies in memory. -/
import Derived.Test.YtgehalfnpbjjcaaGreatAlivePure
import Derived.Test.YtgehalfnpbjjcaaGreatMapP
import Derived.Test.YtgehalfnpbjjcaaGreatRow
namespace Go.Proofs.YtgehalfnpbjjcaaGreat
open Go Go.RowKit
def chgC (c : Chg) : List Value := [.string c.nm, .string c.src, .pointer (c.dst.map fun p => ⟨p, 0, none⟩)]
theorem chgC_length (l : List Chg) : (l.flatMap chgC).length = l.length * 3 := by
  induction l with
  | nil => rfl
  | cons a l ih => rw [List.flatMap_cons, List.length_append, ih, List.length_cons]; simp [chgC]; omega
/-- The struct's cells. -/
def fsC (st : FSt) (m1 m2 : Nat) (ch : Value) : Array Value := #[.int .i64 st.room, .map (some m1), .map (some m2), ch, .int .i64 st.left, .bool st.armed, .bool st.down, .int .i64 st.steps]
/-- Block sb is a file system, laid open; it writes blocks of F, and reads those of D alone. -/
structure FSo (w : World) (F D : Nat → Prop) (sb : Nat) (st : FSt) (m1 m2 : Nat) (ch : Value) : Prop where
  head : w.heap[sb]? = some (.cells (fsC st m1 m2 ch) 62 (0, 0))
  self : F sb
  f1 : F m1
  f2 : F m2
  ne : m1 ≠ m2
  seen : MapG Value.string ekP w m1 st.seen
  safe : MapG Value.string ekP w m2 st.safe
  own : Own w 0 75 3 ch st.chg.length (st.chg.flatMap chgC)
  hm : ∀ k, mine ch k → F k
  files : ∀ p x, st.files p = some x → F p ∧ ∃ v, w.heap[p]? = some (.cells #[v, .int .i64 (x.safe : Int)] 87 (0, 0)) ∧ Bs (fun k => D k → F k) w v x.b
  sub : ∀ k, F k → D k
structure FSr (w : World) (F D : Nat → Prop) (sb : Nat) (st : FSt) : Prop where
  ok : st.Ok
  lies : ∃ m1 m2 ca cc, FSo w F D sb st m1 m2 (.slice ca st.chg.length cc)
  lt : ∀ k, D k → k < w.heap.size
theorem Bs.dep {w w' : World} {F D S : Nat → Prop} {v : Value} {b : List UInt8} (h : Bs (fun k => D k → F k) w v b) (hf : Fr S w w') (hs : ∀ k, D k → ¬ F k → ¬ S k) : Bs (fun k => D k → F k) w' v b := by
  obtain ⟨a, c, e1, e2, e3, e4⟩ := h
  refine ⟨a, c, e1, e2, e3, e4.imp id ?_⟩
  rintro ⟨b, off, g1, g2, g3, g4⟩
  have hD : D b := Classical.byContradiction fun hn => g3 (fun hd => absurd hd hn)
  have hF : ¬ F b := fun hF => g3 (fun _ => hF)
  exact ⟨b, off, g1, Nat.lt_of_lt_of_le g2 hf.size, g3, fun i y hy => (hf.cell (p := ⟨b, off + i, none⟩) g2 (hs b hD hF)).trans (g4 i y hy)⟩
section
variable {w w' : World} {F D : Nat → Prop} {sb : Nat} {st st' : FSt} {m1 m2 m1' m2' : Nat} {ch ch' : Value}
theorem FSo.fr (h : FSo w F D sb st m1 m2 ch) {S : Nat → Prop} (hf : Fr S w w') (hs : ∀ k, D k → ¬ S k) : FSo w' F D sb st m1 m2 ch where
  head := hf.heap h.head (hs _ (h.sub _ h.self))
  self := h.self
  f1 := h.f1
  f2 := h.f2
  ne := h.ne
  seen := h.seen.fr hf (hs _ (h.sub _ h.f1))
  safe := h.safe.fr hf (hs _ (h.sub _ h.f2))
  own := h.own.fr hf (fun k hk => hs k (h.sub k (h.hm k hk)))
  hm := h.hm
  files := fun p x hp => by
    obtain ⟨h1, v, h2, h3⟩ := h.files p x hp
    exact ⟨h1, v, hf.heap h2 (hs _ (h.sub _ h1)), h3.dep hf (fun k hk _ => hs k hk)⟩
  sub := h.sub
theorem FSo.below (h : FSo w F D sb st m1 m2 ch) (hb : Below w.heap.size w w') : FSo w' F D sb st m1 m2 ch := h.fr (Fr.of_below hb : Fr (fun _ => False) _ _) (fun _ _ => id)
/-- New blocks may be written, too. -/
theorem FSo.growF (h : FSo w F D sb st m1 m2 ch) : FSo w (fun k => F k ∨ w.heap.size ≤ k) (fun k => D k ∨ w.heap.size ≤ k) sb st m1 m2 ch where
  head := h.head
  self := .inl h.self
  f1 := .inl h.f1
  f2 := .inl h.f2
  ne := h.ne
  seen := h.seen
  safe := h.safe
  own := h.own
  hm := fun k hk => .inl (h.hm k hk)
  files := fun p x hp => by
    obtain ⟨h1, v, h2, h3⟩ := h.files p x hp
    exact ⟨.inl h1, v, h2, h3.mono (fun k hk hs hd => (hs (.inl hd)).resolve_right (by omega))⟩
  sub := fun k hk => hk.imp (h.sub k) id
/-- New blocks may be read. -/
theorem FSo.growD (h : FSo w F D sb st m1 m2 ch) : FSo w F (fun k => D k ∨ w.heap.size ≤ k) sb st m1 m2 ch where
  head := h.head
  self := h.self
  f1 := h.f1
  f2 := h.f2
  ne := h.ne
  seen := h.seen
  safe := h.safe
  own := h.own
  hm := h.hm
  files := fun p x hp => by
    obtain ⟨h1, v, h2, h3⟩ := h.files p x hp
    exact ⟨h1, v, h2, h3.mono (fun k hk hs hd => hs (.inl hd))⟩
  sub := fun k hk => .inl (h.sub k hk)
theorem FSo.ne_map (h : FSo w F D sb st m1 m2 ch) {m : Nat} {d : Dir} (hm : MapG Value.string ekP w m d) : m ≠ sb := by
  obtain ⟨es, c, h1, _⟩ := hm
  intro e
  rw [e, h.head] at h1
  cases h1
theorem FSo.ne_file (h : FSo w F D sb st m1 m2 ch) {p : Nat} {cs : Array Value} (hp : w.heap[p]? = some (.cells cs 87 (0, 0))) : p ≠ sb := by
  intro e
  rw [e, h.head] at hp
  injection hp with hp
  injection hp with _ hp
  exact absurd hp (by decide)
theorem own_mine {w : World} {base e size n : Nat} {v : Value} {cs : List Value} (h : Own w base e size v n cs) {k : Nat} (hk : mine v k) : ∃ cur, w.heap[k]? = some (.cells cur e (0, 0)) := by
  obtain ⟨off, m, c, hv, hc⟩ := hk
  obtain ⟨h0, ⟨rfl, a, h⟩ | ⟨g, cap, cur, h, hb, hg, hn, hz, ht⟩⟩ := h
  · rw [h] at hv; injection hv with _ _ e; exact absurd e.symm hc
  · rw [h] at hv; injection hv with e1 _ _; injection e1 with e1; injection e1 with e1 _ _; subst e1; exact ⟨cur, hg⟩
theorem FSo.ne_own (h : FSo w F D sb st m1 m2 ch) {n : Nat} {v : Value} {cs : List Value} (ho : Own w 0 75 3 v n cs) {k : Nat} (hk : mine v k) : k ≠ sb := by
  obtain ⟨cur, hc⟩ := own_mine ho hk
  intro e
  rw [e, h.head] at hc
  injection hc with hc
  injection hc with _ hc
  exact absurd hc (by decide)
/-- The struct is turned. -/
theorem FSo.setHead (h : FSo w F D sb st m1 m2 ch) (hf : Fr (· = sb) w w') (hh : w'.heap[sb]? = some (.cells (fsC st' m1' m2' ch') 62 (0, 0))) (hfi : st'.files = st.files)
    (h1 : F m1') (h2 : F m2') (hne : m1' ≠ m2') (hs1 : MapG Value.string ekP w m1' st'.seen) (hs2 : MapG Value.string ekP w m2' st'.safe) (ho : Own w 0 75 3 ch' st'.chg.length (st'.chg.flatMap chgC)) (hmi : ∀ k, mine ch' k → F k) :
    FSo w' F D sb st' m1' m2' ch' where
  head := hh
  self := h.self
  f1 := h1
  f2 := h2
  ne := hne
  seen := hs1.fr hf (h.ne_map hs1)
  safe := hs2.fr hf (h.ne_map hs2)
  own := ho.fr hf (fun k hk => h.ne_own ho hk)
  hm := hmi
  files := fun p x hp => by
    rw [hfi] at hp
    obtain ⟨g1, v, g2, g3⟩ := h.files p x hp
    exact ⟨g1, v, hf.heap g2 (h.ne_file g2), g3.dep hf (fun k _ hF e => hF (e ▸ h.self))⟩
  sub := h.sub
theorem mapG_ne_cells {w : World} {m p : Nat} {d : Dir} {cs : Array Value} {t : TypeId} (hm : MapG Value.string ekP w m d) (hp : w.heap[p]? = some (.cells cs t (0, 0))) : p ≠ m := by
  obtain ⟨es, c, h1, _⟩ := hm
  intro e
  rw [← e, hp] at h1
  cases h1
theorem FSo.setSeen (h : FSo w F D sb st m1 m2 ch) (hf : Fr (· = m1) w w') {d : Dir} (hm : MapG Value.string ekP w' m1 d) : FSo w' F D sb { st with seen := d } m1 m2 ch where
  head := hf.heap h.head (fun e => h.ne_map h.seen e.symm)
  self := h.self
  f1 := h.f1
  f2 := h.f2
  ne := h.ne
  seen := hm
  safe := h.safe.fr hf (fun e => h.ne e.symm)
  own := h.own.fr hf (fun k hk e => by obtain ⟨cur, hc⟩ := own_mine h.own hk; exact mapG_ne_cells h.seen hc e)
  hm := h.hm
  files := fun p x hp => by
    obtain ⟨g1, v, g2, g3⟩ := h.files p x hp
    exact ⟨g1, v, hf.heap g2 (mapG_ne_cells h.seen g2), g3.dep hf (fun k _ hF e => hF (e ▸ h.f1))⟩
  sub := h.sub
theorem FSo.setSafe (h : FSo w F D sb st m1 m2 ch) (hf : Fr (· = m2) w w') {d : Dir} (hm : MapG Value.string ekP w' m2 d) : FSo w' F D sb { st with safe := d } m1 m2 ch where
  head := hf.heap h.head (fun e => h.ne_map h.safe e.symm)
  self := h.self
  f1 := h.f1
  f2 := h.f2
  ne := h.ne
  seen := h.seen.fr hf h.ne
  safe := hm
  own := h.own.fr hf (fun k hk e => by obtain ⟨cur, hc⟩ := own_mine h.own hk; exact mapG_ne_cells h.safe hc e)
  hm := h.hm
  files := fun p x hp => by
    obtain ⟨g1, v, g2, g3⟩ := h.files p x hp
    exact ⟨g1, v, hf.heap g2 (mapG_ne_cells h.safe g2), g3.dep hf (fun k _ hF e => hF (e ▸ h.f2))⟩
  sub := h.sub
/-- A file that lies in block p is one of its files from now on. -/
theorem FSo.addFile (h : FSo w F D sb st m1 m2 ch) {p : Nat} {x : Fil} {v : Value} (hF : F p) (hp : w.heap[p]? = some (.cells #[v, .int .i64 (x.safe : Int)] 87 (0, 0))) (hb : Bs (fun k => D k → F k) w v x.b) :
    FSo w F D sb { st with files := putFil st.files p x } m1 m2 ch where
  head := h.head
  self := h.self
  f1 := h.f1
  f2 := h.f2
  ne := h.ne
  seen := h.seen
  safe := h.safe
  own := h.own
  hm := h.hm
  files := fun q y hq => by
    simp only [putFil] at hq
    split at hq
    · rename_i e
      injection hq with hq
      subst e hq
      exact ⟨hF, v, hp, hb⟩
    · exact h.files q y hq
  sub := h.sub
theorem FSo.setFile (h : FSo w F D sb st m1 m2 ch) {p : Nat} {x y : Fil} (hx : st.files p = some x) (hf : Fr (· = p) w w') {v : Value} (hp : w'.heap[p]? = some (.cells #[v, .int .i64 (y.safe : Int)] 87 (0, 0))) (hb : Bs (fun k => D k → F k) w v y.b) :
    FSo w' F D sb { st with files := putFil st.files p y } m1 m2 ch := by
  obtain ⟨g1, v0, g2, _⟩ := h.files p x hx
  have hk : ∀ k, D k → ¬ F k → ¬ (k = p) := fun k _ hF e => hF (e ▸ g1)
  exact {
    head := hf.heap h.head (fun e => h.ne_file g2 e.symm)
    self := h.self
    f1 := h.f1
    f2 := h.f2
    ne := h.ne
    seen := h.seen.fr hf (fun e => mapG_ne_cells h.seen g2 e.symm)
    safe := h.safe.fr hf (fun e => mapG_ne_cells h.safe g2 e.symm)
    own := h.own.fr hf (fun k hk e => by
      obtain ⟨cur, hc⟩ := own_mine h.own hk
      subst e
      rw [g2] at hc
      injection hc with hc
      injection hc with _ hc
      exact absurd hc (by decide))
    hm := h.hm
    files := fun q z hq => by
      simp only [putFil] at hq
      split at hq
      · rename_i e
        injection hq with hq
        subst e hq
        exact ⟨g1, v, hp, hb.dep hf hk⟩
      · rename_i hne
        obtain ⟨e1, u, e2, e3⟩ := h.files q z hq
        exact ⟨e1, u, hf.heap e2 hne, e3.dep hf hk⟩
    sub := h.sub }
/-- The changes, appended to (or none), are stored. -/
theorem FSo.setChg {w1 : World} (h : FSo w F D sb st m1 m2 ch) (hf : Fr (mine ch) w w1) {l : List Chg} (ho : Own w1 0 75 3 ch' l.length (l.flatMap chgC)) (hmi : ∀ k, mine ch' k → F k) (hf2 : Fr (· = sb) w1 w')
    (hh : w'.heap[sb]? = some (.cells (fsC { st with chg := l } m1 m2 ch') 62 (0, 0))) : FSo w' F D sb { st with chg := l } m1 m2 ch' := by
  have hsb : ∀ k, mine ch k → k ≠ sb := fun k hk => h.ne_own h.own hk
  have hh1 : w1.heap[sb]? = some (.cells (fsC st m1 m2 ch) 62 (0, 0)) := hf.heap h.head (fun hk => hsb _ hk rfl)
  have hm : ∀ {m : Nat} {d : Dir}, MapG Value.string ekP w m d → MapG Value.string ekP w' m d := fun {m d} hm => by
    refine (hm.fr hf (fun hk => ?_)).fr hf2 (h.ne_map hm)
    obtain ⟨cur, hc⟩ := own_mine h.own hk
    exact mapG_ne_cells hm hc rfl
  exact {
    head := hh
    self := h.self
    f1 := h.f1
    f2 := h.f2
    ne := h.ne
    seen := hm h.seen
    safe := hm h.safe
    own := ho.fr hf2 (fun k hk e => by
      obtain ⟨cur, hc⟩ := own_mine ho hk
      rw [e, hh1] at hc
      injection hc with hc
      injection hc with _ hc
      exact absurd hc (by decide))
    hm := hmi
    files := fun p x hp => by
      obtain ⟨g1, v, g2, g3⟩ := h.files p x hp
      have e1 : w1.heap[p]? = some (.cells #[v, .int .i64 (x.safe : Int)] 87 (0, 0)) := hf.heap g2 (fun hk => by
        obtain ⟨cur, hc⟩ := own_mine h.own hk
        rw [g2] at hc
        injection hc with hc
        injection hc with _ hc
        exact absurd hc (by decide))
      exact ⟨g1, v, hf2.heap e1 (h.ne_file g2), (g3.dep hf (fun k _ hF hk => hF (h.hm k hk))).dep hf2 (fun k _ hF e => hF (e ▸ h.self))⟩
    sub := h.sub }
/-- Shut again. -/
theorem FSo.shut (h : FSo w F D sb st m1 m2 ch) (hok : st.Ok) : FSr w (fun k => F k ∧ k < w.heap.size) (fun k => D k ∧ k < w.heap.size) sb st := by
  obtain ⟨ca, cc, rfl, _⟩ := h.own.len
  refine ⟨hok, ⟨m1, m2, ca, cc, ?_⟩, fun k hk => hk.2⟩
  exact {
    head := h.head
    self := ⟨h.self, lt_of_heap h.head⟩
    f1 := ⟨h.f1, h.seen.lt⟩
    f2 := ⟨h.f2, h.safe.lt⟩
    ne := h.ne
    seen := h.seen
    safe := h.safe
    own := h.own
    hm := fun k hk => ⟨h.hm k hk, (Own.mine_ge h.own hk).2⟩
    files := fun p x hp => by
      obtain ⟨h1, v, h2, h3⟩ := h.files p x hp
      exact ⟨⟨h1, lt_of_heap h2⟩, v, h2, h3.mono (fun k hk hs hd => (hs ⟨hd, hk⟩).1)⟩
    sub := fun k hk => ⟨h.sub k hk.1, hk.2⟩ }
theorem FSr.fr (h : FSr w F D sb st) {S : Nat → Prop} (hf : Fr S w w') (hs : ∀ k, D k → ¬ S k) : FSr w' F D sb st := by
  obtain ⟨m1, m2, ca, cc, ho⟩ := h.lies
  exact ⟨h.ok, ⟨m1, m2, ca, cc, ho.fr hf hs⟩, fun k hk => Nat.lt_of_lt_of_le (h.lt k hk) hf.size⟩
theorem FSr.below (h : FSr w F D sb st) (hb : Below w.heap.size w w') : FSr w' F D sb st := h.fr (Fr.of_below hb : Fr (fun _ => False) _ _) (fun _ _ => id)
end
/-- What a call of a file system turns. -/
structure Turn (F D F' D' : Nat → Prop) (w w' : World) : Prop where
  fr : Fr F w w'
  fF : ∀ k, F' k → F k ∨ w.heap.size ≤ k
  fD : ∀ k, D' k → D k ∨ w.heap.size ≤ k
theorem Turn.refl (F D : Nat → Prop) (w : World) : Turn F D F D w w := ⟨Fr.refl _ _, fun _ h => .inl h, fun _ h => .inl h⟩
theorem Turn.of_below {F D : Nat → Prop} {w w' : World} (h : Below w.heap.size w w') : Turn F D F D w w' := ⟨Fr.of_below h, fun _ h => .inl h, fun _ h => .inl h⟩
theorem Turn.trans {F D F' D' F2 D2 : Nat → Prop} {a b c : World} (h : Turn F D F' D' a b) (k : Turn F' D' F2 D2 b c) : Turn F D F2 D2 a c where
  fr := h.fr.trans' k.fr (fun i hi hF => (h.fF i hF).resolve_right (by omega))
  fF := fun i hi => (k.fF i hi).elim (fun h' => h.fF i h') (fun h' => .inr (Nat.le_trans h.fr.size h'))
  fD := fun i hi => (k.fD i hi).elim (fun h' => h.fD i h') (fun h' => .inr (Nat.le_trans h.fr.size h'))
theorem Turn.behind {F D F' D' : Nat → Prop} {a b c : World} (h : Turn F D F' D' a b) (k : Below b.heap.size b c) : Turn F D F' D' a c := h.trans (Turn.of_below k)
end Go.Proofs.YtgehalfnpbjjcaaGreat
