/- How a file system of hayloftref06 lies in memory. -/
import Derived.Test.YtgehalfnpbjjcaaGreatRefB
namespace Go.Proofs.YtgehalfnpbjjcaaGreat
open Go Go.RowKit Go.Sort
theorem Row.dep {w w' : World} {F D S : Nat → Prop} {v : Value} {n size : Nat} {cs : List Value} (h : Row (fun k => D k → F k) w v n size cs) (hf : Fr S w w') (hs : ∀ k, D k → ¬ F k → ¬ S k) : Row (fun k => D k → F k) w' v n size cs :=
  h.fr hf (fun k _ hS hD => Classical.byContradiction fun hF => hs k hD hF hS)
/-- What a file system holds, beside its struct; the struct's block is rb. -/
structure RSb (w : World) (F D : Nat → Prop) (rb : Nat) (fs : List (Value × RFil)) (sn sf : RDir) (ch : List RChg) (vf vs va vc : Value) : Prop where
  hd : ∃ cs, w.heap[rb]? = some (.cells cs 42 (0, 0))
  self : F rb
  files : Own w 0 97 2 vf fs.length (fs.flatMap rfilC)
  each : ∀ p ∈ fs, Bs (fun k => D k → F k) w p.1 p.2.b
  seen : Row (fun k => D k → F k) w vs sn.length 2 (sn.flatMap rentC)
  safe : Row (fun k => D k → F k) w va sf.length 2 (sf.flatMap rentC)
  chg : Own w 0 100 4 vc ch.length (ch.flatMap rchgC)
  mf : ∀ k, mine vf k → F k
  mc : ∀ k, mine vc k → F k
  sub : ∀ k, F k → D k
def rfsC (st : RSt) (vf vs va vc : Value) : Array Value := #[.int .i64 st.room, vf, vs, va, vc, .int .i64 st.armed, .bool st.down, .int .i64 st.count]
structure RSt.Ok (st : RSt) : Prop where
  room0 : 0 ≤ st.room
  room1 : st.room ≤ 99000
  seenI : ∀ p ∈ st.seen, 0 ≤ p.2 ∧ p.2 < st.files.length ∧ p.1.size ≤ 1000000
  safeI : ∀ p ∈ st.safe, 0 ≤ p.2 ∧ p.2 < st.files.length ∧ p.1.size ≤ 1000000
  chgI : ∀ c ∈ st.chg, c.a.size ≤ 1000000 ∧ c.b.size ≤ 1000000 ∧ (c.kind ≠ 2 → 0 ≤ c.which ∧ c.which < st.files.length)
  fil : ∀ x ∈ st.files, 0 ≤ x.safe ∧ x.safe ≤ x.b.length ∧ x.b.length ≤ 99000
structure RSr (w : World) (F D : Nat → Prop) (rb : Nat) (st : RSt) : Prop where
  ok : st.Ok
  lies : ∃ fs vf vs va vc, fs.map Prod.snd = st.files ∧ RSb w F D rb fs st.seen st.safe st.chg vf vs va vc ∧ w.heap[rb]? = some (.cells (rfsC st vf vs va vc) 42 (0, 0))
  lt : ∀ k, D k → k < w.heap.size
section
variable {w w' : World} {F D : Nat → Prop} {rb : Nat} {fs fs' : List (Value × RFil)} {sn sf sn' sf' : RDir} {ch ch' : List RChg} {vf vs va vc vf' vs' va' vc' : Value}
theorem RSb.ne {e size n : Nat} {v : Value} {cs : List Value} (h : RSb w F D rb fs sn sf ch vf vs va vc) (ho : Own w 0 e size v n cs) (hne : e ≠ 42) {k : Nat} (hk : mine v k) : k ≠ rb := by
  obtain ⟨cur, hc⟩ := own_mine ho hk
  obtain ⟨cs', hh⟩ := h.hd
  intro e'
  rw [e', hh] at hc
  injection hc with hc
  injection hc with _ hc
  exact hne hc.symm
theorem RSb.fr (h : RSb w F D rb fs sn sf ch vf vs va vc) {S : Nat → Prop} (hf : Fr S w w') (hs : ∀ k, D k → ¬ S k) : RSb w' F D rb fs sn sf ch vf vs va vc where
  hd := by obtain ⟨cs, hh⟩ := h.hd; exact ⟨cs, hf.heap hh (hs _ (h.sub _ h.self))⟩
  self := h.self
  files := h.files.fr hf (fun k hk => hs k (h.sub k (h.mf k hk)))
  each := fun p hp => (h.each p hp).dep hf (fun k hk _ => hs k hk)
  seen := h.seen.dep hf (fun k hk _ => hs k hk)
  safe := h.safe.dep hf (fun k hk _ => hs k hk)
  chg := h.chg.fr hf (fun k hk => hs k (h.sub k (h.mc k hk)))
  mf := h.mf
  mc := h.mc
  sub := h.sub
theorem RSb.below (h : RSb w F D rb fs sn sf ch vf vs va vc) (hb : Below w.heap.size w w') : RSb w' F D rb fs sn sf ch vf vs va vc := h.fr (Fr.of_below hb : Fr (fun _ => False) _ _) (fun _ _ => id)
/-- New blocks may be read, and written. -/
theorem RSb.grow (h : RSb w F D rb fs sn sf ch vf vs va vc) {F' D' : Nat → Prop} (hF : ∀ k, F k → F' k) (hD : ∀ k, D k → D' k) (hs : ∀ k, F' k → D' k) (hn : ∀ k, k < w.heap.size → F' k → F k) : RSb w F' D' rb fs sn sf ch vf vs va vc where
  hd := h.hd
  self := hF _ h.self
  files := h.files
  each := fun p hp => (h.each p hp).mono (fun k hk hs hd => hn k hk (hs (hD k hd)))
  seen := h.seen.mono (fun k hk hs hd => hn k hk (hs (hD k hd)))
  safe := h.safe.mono (fun k hk hs hd => hn k hk (hs (hD k hd)))
  chg := h.chg
  mf := fun k hk => hF _ (h.mf k hk)
  mc := fun k hk => hF _ (h.mc k hk)
  sub := hs
/-- The struct is turned. -/
theorem RSb.turnH (h : RSb w F D rb fs sn sf ch vf vs va vc) (hf : Fr (· = rb) w w') {cs : Array Value} (hh : w'.heap[rb]? = some (.cells cs 42 (0, 0))) : RSb w' F D rb fs sn sf ch vf vs va vc where
  hd := ⟨cs, hh⟩
  self := h.self
  files := h.files.fr hf (fun k hk => h.ne h.files (by decide) hk)
  each := fun p hp => (h.each p hp).dep hf (fun k _ hn e => hn (e ▸ h.self))
  seen := h.seen.dep hf (fun k _ hn e => hn (e ▸ h.self))
  safe := h.safe.dep hf (fun k _ hn e => hn (e ▸ h.self))
  chg := h.chg.fr hf (fun k hk => h.ne h.chg (by decide) hk)
  mf := h.mf
  mc := h.mc
  sub := h.sub
theorem mine_apart {e e' size size' n n' : Nat} {v v' : Value} {cs cs' : List Value} (ho : Own w 0 e size v n cs) (ho' : Own w 0 e' size' v' n' cs') (hne : e ≠ e') {k : Nat} (hk : mine v k) (hk' : mine v' k) : False := by
  obtain ⟨cur, hc⟩ := own_mine ho hk
  obtain ⟨cur', hc'⟩ := own_mine ho' hk'
  rw [hc] at hc'
  injection hc' with hc'
  injection hc' with _ hc'
  exact hne hc'
/-- The files are turned. -/
theorem RSb.turnF (h : RSb w F D rb fs sn sf ch vf vs va vc) (hf : Fr (mine vf) w w') (ho : Own w' 0 97 2 vf' fs'.length (fs'.flatMap rfilC)) (he : ∀ p ∈ fs', Bs (fun k => D k → F k) w' p.1 p.2.b) (hm : ∀ k, mine vf' k → F k) : RSb w' F D rb fs' sn sf ch vf' vs va vc where
  hd := by obtain ⟨cs, hh⟩ := h.hd; exact ⟨cs, hf.heap hh (fun hk => h.ne h.files (by decide) hk rfl)⟩
  self := h.self
  files := ho
  each := he
  seen := h.seen.dep hf (fun k _ hn hk => hn (h.mf k hk))
  safe := h.safe.dep hf (fun k _ hn hk => hn (h.mf k hk))
  chg := h.chg.fr hf (fun k hk hk' => mine_apart h.chg h.files (by decide) hk hk')
  mf := hm
  mc := h.mc
  sub := h.sub
theorem RSb.turnC (h : RSb w F D rb fs sn sf ch vf vs va vc) (hf : Fr (mine vc) w w') (ho : Own w' 0 100 4 vc' ch'.length (ch'.flatMap rchgC)) (hm : ∀ k, mine vc' k → F k) : RSb w' F D rb fs sn sf ch' vf vs va vc' where
  hd := by obtain ⟨cs, hh⟩ := h.hd; exact ⟨cs, hf.heap hh (fun hk => h.ne h.chg (by decide) hk rfl)⟩
  self := h.self
  files := h.files.fr hf (fun k hk hk' => mine_apart h.files h.chg (by decide) hk hk')
  each := fun p hp => (h.each p hp).dep hf (fun k _ hn hk => hn (h.mc k hk))
  seen := h.seen.dep hf (fun k _ hn hk => hn (h.mc k hk))
  safe := h.safe.dep hf (fun k _ hn hk => hn (h.mc k hk))
  chg := ho
  mf := h.mf
  mc := hm
  sub := h.sub
theorem RSb.eachF (h : RSb w F D rb fs sn sf ch vf vs va vc) (hf : Fr (mine vf) w w') : ∀ p ∈ fs, Bs (fun k => D k → F k) w' p.1 p.2.b := fun p hp => (h.each p hp).dep hf (fun k _ hn hk => hn (h.mf k hk))
theorem RSb.setSeen (h : RSb w F D rb fs sn sf ch vf vs va vc) (hs : Row (fun k => D k → F k) w vs' sn'.length 2 (sn'.flatMap rentC)) : RSb w F D rb fs sn' sf ch vf vs' va vc := ⟨h.hd, h.self, h.files, h.each, hs, h.safe, h.chg, h.mf, h.mc, h.sub⟩
theorem RSb.setSafe (h : RSb w F D rb fs sn sf ch vf vs va vc) (hs : Row (fun k => D k → F k) w va' sf'.length 2 (sf'.flatMap rentC)) : RSb w F D rb fs sn sf' ch vf vs va' vc := ⟨h.hd, h.self, h.files, h.each, h.seen, hs, h.chg, h.mf, h.mc, h.sub⟩
theorem RSb.noChg (h : RSb w F D rb fs sn sf ch vf vs va vc) : RSb w F D rb fs sn sf [] vf vs va (.slice none 0 0) := ⟨h.hd, h.self, h.files, h.each, h.seen, h.safe, Own.nil _ _ _ _, h.mf, (fun k hk => by obtain ⟨off, m, c, hv, hc⟩ := hk; cases hv), h.sub⟩
end
section
variable {w w' : World} {F D : Nat → Prop} {rb : Nat} {st : RSt}
theorem RSr.fr (h : RSr w F D rb st) {S : Nat → Prop} (hf : Fr S w w') (hs : ∀ k, D k → ¬ S k) : RSr w' F D rb st := by
  obtain ⟨fs, vf, vs, va, vc, e, hb, hh⟩ := h.lies
  exact ⟨h.ok, ⟨fs, vf, vs, va, vc, e, hb.fr hf hs, hf.heap hh (hs _ (hb.sub _ hb.self))⟩, fun k hk => Nat.lt_of_lt_of_le (h.lt k hk) hf.size⟩
theorem RSr.below (h : RSr w F D rb st) (hb : Below w.heap.size w w') : RSr w' F D rb st := h.fr (Fr.of_below hb : Fr (fun _ => False) _ _) (fun _ _ => id)
theorem RSr.ltF (h : RSr w F D rb st) {k : Nat} (hk : F k) : k < w.heap.size := by
  obtain ⟨fs, vf, vs, va, vc, e, hb, hh⟩ := h.lies
  exact h.lt k (hb.sub k hk)
/-- Shut again. -/
theorem RSb.shut {fs : List (Value × RFil)} {vf vs va vc : Value} (h : RSb w F D rb fs st.seen st.safe st.chg vf vs va vc) (hok : st.Ok) (he : fs.map Prod.snd = st.files) (hh : w.heap[rb]? = some (.cells (rfsC st vf vs va vc) 42 (0, 0))) : RSr w (fun k => F k ∧ k < w.heap.size) (fun k => D k ∧ k < w.heap.size) rb st := by
  refine ⟨hok, ⟨fs, vf, vs, va, vc, he, ?_, hh⟩, fun k hk => hk.2⟩
  exact {
    hd := h.hd
    self := ⟨h.self, lt_of_heap hh⟩
    files := h.files
    each := fun p hp => (h.each p hp).mono (fun k hk hs hd => (hs ⟨hd, hk⟩).1)
    seen := h.seen.mono (fun k hk hs hd => (hs ⟨hd, hk⟩).1)
    safe := h.safe.mono (fun k hk hs hd => (hs ⟨hd, hk⟩).1)
    chg := h.chg
    mf := fun k hk => ⟨h.mf k hk, (Own.mine_ge h.files hk).2⟩
    mc := fun k hk => ⟨h.mc k hk, (Own.mine_ge h.chg hk).2⟩
    sub := fun k hk => ⟨h.sub k hk.1, hk.2⟩ }
end
end Go.Proofs.YtgehalfnpbjjcaaGreat
