/- hayloftref06: a file opened; Read. -/
import Derived.Test.YtgehalfnpbjjcaaGreatRefF
import Derived.Test.YtgehalfnpbjjcaaGreatClone
namespace Go.Proofs.YtgehalfnpbjjcaaGreat
open Go Go.RowKit Go.Sort
theorem flat_set {α : Type} {f : α → List Value} {m : Nat} (hf : ∀ a, (f a).length = m) {c' : α} {u : Value} {j : Nat} (hj : j < m) : ∀ {l : List α} {k : Nat} {c : α}, l[k]? = some c → (f c).set j u = f c' → (l.flatMap f).set (k * m + j) u = (l.set k c').flatMap f
  | [], _, _, h, _ => by simp at h
  | a :: l, 0, c, h, hc => by
    simp only [List.getElem?_cons_zero, Option.some.injEq] at h
    subst h
    rw [List.set_cons_zero, List.flatMap_cons, List.flatMap_cons, Nat.zero_mul, Nat.zero_add, List.set_append_left _ _ (by rw [hf]; exact hj), hc]
  | a :: l, k + 1, c, h, hc => by
    have h' : l[k]? = some c := by simpa using h
    rw [List.set_cons_succ, List.flatMap_cons, List.flatMap_cons, List.set_append_right _ _ (by rw [hf, Nat.succ_mul]; omega), hf]
    rw [show (k + 1) * m + j - m = k * m + j by rw [Nat.succ_mul]; omega, flat_set hf hj h' hc]
section
variable {w : World} {F D : Nat → Prop} {rb : Nat} {fs : List (Value × RFil)} {sn sf : RDir} {ch : List RChg} {vs va vc : Value} {g cf : Nat}
/-- A cell of a file is turned. -/
theorem RSb.storeFil (h : RSb w F D rb fs sn sf ch (.slice (some ⟨g, 0, none⟩) fs.length cf) vs va vc) {k : Nat} {p : Value × RFil} (hp : fs[k]? = some p) (p' : Value × RFil) (hb : Bs (fun k => D k → F k) w p'.1 p'.2.b) {j : Nat} (hj : j < 2) {u : Value} (hu : (rfilC p).set j u = rfilC p') :
    RSb (w.setCell ⟨g, k * 2 + j, none⟩ u) F D rb (fs.set k p') sn sf ch (.slice (some ⟨g, 0, none⟩) (fs.set k p').length cf) vs va vc ∧ Fr (· = g) w (w.setCell ⟨g, k * 2 + j, none⟩ u) := by
  have hk := (List.getElem?_eq_some_iff.1 hp).1
  have hm : mine (.slice (some ⟨g, 0, none⟩) fs.length cf) g := by
    obtain ⟨h0, ⟨h1, _⟩ | ⟨g', cap, cur, hv, hb, hg, hn, hz, ht⟩⟩ := id h.files
    · omega
    · injection hv with e1 e2 e3
      exact ⟨0, _, _, rfl, by have := hn.1; omega⟩
  have hf : Fr (mine (.slice (some ⟨g, 0, none⟩) fs.length cf)) w (w.setCell ⟨g, k * 2 + j, none⟩ u) := (Fr.refl _ w).setCell (fun _ => hm) _
  have ho := (h.files.store (k * 2 + j) (by omega) u).2
  rw [flat_set rfilC_len hj hp hu] at ho
  have hl : (fs.set k p').length = fs.length := by simp
  refine ⟨?_, (Fr.refl (· = g) w).setCell (fun _ => rfl) _⟩
  rw [hl]
  exact h.turnF hf (by rw [hl]; exact ho) (fun q hq => by
    rcases List.mem_or_eq_of_mem_set hq with hq | rfl
    · exact h.eachF hf q hq
    · exact hb.dep hf (fun k _ hn hk => hn (h.mf k hk))) h.mf
end
/-- A file system, opened at one file. -/
structure RAt (w : World) (F D : Nat → Prop) (rb : Nat) (st : RSt) (kk : Nat) (x : RFil) (fs : List (Value × RFil)) (g cf : Nat) (fa : Option Addr) (fc : Nat) (a0 : Option Addr) (c0 : Nat) (va vc : Value) : Prop where
  fil : fs.map Prod.snd = st.files
  body : RSb w F D rb fs st.seen st.safe st.chg (.slice (some ⟨g, 0, none⟩) fs.length cf) (.slice a0 st.seen.length c0) va vc
  head : w.heap[rb]? = some (.cells (rfsC st (.slice (some ⟨g, 0, none⟩) fs.length cf) (.slice a0 st.seen.length c0) va vc) 42 (0, 0))
  at_ : fs[kk]? = some (.slice fa x.b.length fc, x)
  blk : ∃ cur, w.heap[g]? = some (.cells cur 97 (0, 0))
  le1 : fs.length ≤ cf
  le2 : cf ≤ maxLen
  q0 : w.cell? ⟨g, kk * 2, none⟩ = some (.slice fa x.b.length fc)
  q1 : w.cell? ⟨g, kk * 2 + 1, none⟩ = some (.int .i64 x.safe)
  bs : Bs (fun k => D k → F k) w (.slice fa x.b.length fc) x.b
  fit : Fits x.b.length fc
  ne : g ≠ rb
  fg : F g
theorem RSr.openAt {w : World} {F D : Nat → Prop} {rb : Nat} {st : RSt} (h : RSr w F D rb st) {kk : Nat} {x : RFil} (hx : st.files[kk]? = some x) : ∃ fs g cf fa fc a0 c0 va vc, RAt w F D rb st kk x fs g cf fa fc a0 c0 va vc := by
  obtain ⟨fs, vf, vs, va, vc, he, hb, hh⟩ := h.lies
  obtain ⟨_, a0, c0, rfl, _⟩ := id hb.seen
  rw [← he, List.getElem?_map, Option.map_eq_some_iff] at hx
  obtain ⟨⟨v, y⟩, hq, rfl⟩ := hx
  obtain ⟨g, cf, cur, rfl, hg, e1, e2, q0, q1, hne, hF⟩ := hb.file hq
  have hbx : Bs (fun k => D k → F k) w v y.b := hb.each _ (List.mem_of_getElem? hq)
  obtain ⟨fa, fc, rfl, hfit, _⟩ := id hbx
  exact ⟨fs, g, cf, fa, fc, a0, c0, va, vc, he, hb, hh, hq, ⟨cur, hg⟩, e1, e2, q0, q1, hbx, hfit, hne, hF⟩
theorem rthere_zero {st : RSt} (hok : st.Ok) {n : ByteArray} (h0 : rthere st n = 0) : n.size ≤ 40 ∧ ∃ (kk : Nat) (x : RFil), rfind st.seen n = (kk : Int) ∧ st.files[kk]? = some x := by
  unfold rthere at h0
  split at h0
  · rename_i h1; exact absurd h0 h1
  · rename_i h1
    split at h0
    · simp at h0
    · rename_i h2
      obtain ⟨p, hp, _, he⟩ := rfind_mem (l := st.seen) (n := n) (by omega)
      have h3 := hok.seenI p hp
      refine ⟨rahead_zero (by simpa using h1), (rfind st.seen n).toNat, _, by omega, List.getElem?_eq_getElem (by omega)⟩
section
variable {w : World} {rb g cf kk : Nat} {fs : List (Value × RFil)}
theorem fa1 (W : World) : (Instr.fieldAt 42 (.pointer (some ⟨rb, 0, none⟩)) 1).run Tryz.prog W = .ok (.pointer (some ⟨rb, 1, none⟩)) W := by go_simp
theorem fa2 (W : World) : (Instr.fieldAt 42 (.pointer (some ⟨rb, 0, none⟩)) 2).run Tryz.prog W = .ok (.pointer (some ⟨rb, 2, none⟩)) W := by go_simp
theorem pi2 (W : World) {n : Nat} (hk : kk < n) (_h1 : n ≤ cf) : (Instr.indexAt 38 (.slice (some ⟨g, 0, none⟩) n cf) (.int .i64 (kk : Int))).run Tryz.prog W = .ok (.pointer (some ⟨g, kk * 2, none⟩)) W := by go_simp
theorem pf20 (W : World) : (Instr.fieldAt 97 (.pointer (some ⟨g, kk * 2, none⟩)) 0).run Tryz.prog W = .ok (.pointer (some ⟨g, kk * 2, none⟩)) W := by go_simp
theorem pf21 (W : World) : (Instr.fieldAt 97 (.pointer (some ⟨g, kk * 2, none⟩)) 1).run Tryz.prog W = .ok (.pointer (some ⟨g, kk * 2 + 1, none⟩)) W := by go_simp
theorem ldf (W : World) {a : Addr} {b : Option Addr} {n c : Nat} (hc : W.cell? a = some (.slice b n c)) : (Instr.loadAt 38 (.pointer (some a))).run Tryz.prog W = .ok (.slice b n c) W := by go_simp
theorem ldd (W : World) {a : Addr} {b : Option Addr} {n c : Nat} (hc : W.cell? a = some (.slice b n c)) : (Instr.loadAt 39 (.pointer (some a))).run Tryz.prog W = .ok (.slice b n c) W := by go_simp
theorem ldb (W : World) {a : Addr} {b : Option Addr} {n c : Nat} (hc : W.cell? a = some (.slice b n c)) : (Instr.loadAt 33 (.pointer (some a))).run Tryz.prog W = .ok (.slice b n c) W := by go_simp
theorem ldi (W : World) {a : Addr} {n : Int} (hc : W.cell? a = some (.int .i64 n)) : (Instr.loadAt 3 (.pointer (some a))).run Tryz.prog W = .ok (.int .i64 n) W := by go_simp
end
set_option maxHeartbeats 1000000 in
set_option maxRecDepth 100000 in
theorem r06Read_ok {F D : Nat → Prop} {rb : Nat} {st : RSt} (w : World) (h : RSr w F D rb st) (hl : st.seen.length ≤ 1000000) (n : ByteArray) :
    Calls Tryz.prog 20 #[.pointer (some ⟨rb, 0, none⟩), .string n] w fun e w' => ∃ a c, e = .returned (.tuple #[.slice a (rread st n).1.length c, .int .i64 (rread st n).2]) ∧ Bs (fun k => D k → F k) w' (.slice a (rread st n).1.length c) (rread st n).1 ∧ Below w.heap.size w w' := by
  have mixed : Tryz.prog.follows .mixedOrders = true := by kernel_rfl
  have HT := hid (r06There_ok w h hl n)
  have hth := fun h0 => rthere_zero h.ok (n := n) h0
  have HR := hid h
  have HTH := hid hth
  clear h hth
  unfold rread
  generalize hA0 : rthere st n = A at *
  by_cases hA : A = 0
  · subst hA
    rw [if_neg (by simp)]
    obtain ⟨_, kk, x, hkk, hx⟩ := HTH.out (by first | trivial | rfl)
    obtain ⟨fs, g, cf, fa, fc, a0, c0, va, vc, hat⟩ := HR.out.openAt hx
    rw [hkk, Int.toNat_natCast, hx]
    simp only
    have hkf := (List.getElem?_eq_some_iff.1 hat.at_).1
    have HF := hid (r06Find_ok w.drew st.seen (hat.body.seen.fr ((Fr.refl (fun _ => False) w).drew) (fun _ _ h => h.elim)) n hl)
    rw [hkk] at HF
    obtain ⟨cur, hg⟩ := hat.blk
    have HAT := hid hat
    have FA1 := hid (fa1 (rb := rb))
    have FA2 := hid (fa2 (rb := rb))
    have FL1 := hid (show ∀ W, Fr (fun _ => False) w W → (Instr.loadAt 38 (.pointer (some ⟨rb, 1, none⟩))).run Tryz.prog W = .ok (.slice (some ⟨g, 0, none⟩) fs.length cf) W from fun W hW => ldf W (cell_of_heap (hW.heap HAT.out.head id) 1))
    have FL2 := hid (show ∀ W, Fr (fun _ => False) w W → (Instr.loadAt 39 (.pointer (some ⟨rb, 2, none⟩))).run Tryz.prog W = .ok (.slice a0 st.seen.length c0) W from fun W hW => ldd W (cell_of_heap (hW.heap HAT.out.head id) 2))
    have PI2 := hid (fun W => pi2 (g := g) W hkf hat.le1)
    have PF2 := hid (fun W => pf20 (g := g) (kk := kk) W)
    have PL2 := hid (show ∀ W, Fr (fun _ => False) w W → (Instr.loadAt 33 (.pointer (some ⟨g, kk * 2, none⟩))).run Tryz.prog W = .ok (.slice fa x.b.length fc) W from fun W hW => ldb W ((hW.cell (p := ⟨g, kk * 2, none⟩) (lt_of_heap hg) id).trans HAT.out.q0))
    clear hat hg hkf hx hkk
    go_enter Tryz.func20, Tryz.ntmps20
    go_wp2_with (go_at_call 61; refine HT.out.mono ?_; rintro e w1 ⟨rfl, rfl⟩)
    have e_find : ∀ args w, (callFunc 58 args).run Tryz.prog w = .ok (.enter 58 args) w := enters_of Tryz.func58 rfl rfl
    have hS0 : Fr (fun _ => False) w1 w1.drew := (Fr.refl _ w1).drew
    refine hg_start (fun W => Fr (fun _ => False) w1 W) 14 mixed ?_
    refine hgt 0 13 kMove (.tmp 0) (.pointer (some ⟨rb, 0, none⟩)) (by kernel_rfl) (by kernel_rfl) (by kernel_rfl) (by kernel_rfl) (by exact fun _ _ _ h => h) (by kernel_rfl) (by kernel_rfl) hS0 (fun o w' ho hs => ex_move ho (by kernel_rfl)) ?_
    refine hgt 1 14 kNil (.tmp 13) (.pointer (some ⟨rb, 0, none⟩)) (by kernel_rfl) (by kernel_rfl) (by kernel_rfl) (by kernel_rfl) (by exact fun _ _ _ h => h) (by kernel_rfl) (by kernel_rfl) hS0 (fun o w' ho hs => ex_nil ho (by kernel_rfl)) ?_
    refine hgt 2 15 kFA (42, .tmp 14, 1) (.pointer (some ⟨rb, 1, none⟩)) (by kernel_rfl) (by kernel_rfl) (by kernel_rfl) (by kernel_rfl) (by exact fun _ _ _ h => h) (by kernel_rfl) (by kernel_rfl) hS0 (fun o w' ho hs => ex_fa ho (by kernel_rfl) (FA1.out _)) ?_
    refine hgt 3 16 kLoad (38, .tmp 15) (.slice (some ⟨g, 0, none⟩) fs.length cf) (by kernel_rfl) (by kernel_rfl) (by kernel_rfl) (by kernel_rfl) (by exact fun _ _ _ h => h) (by kernel_rfl) (by kernel_rfl) hS0 (fun o w' ho hs => ex_load ho (by kernel_rfl) (FL1.out _ hs)) ?_
    refine hgt 4 17 kMove (.tmp 0) (.pointer (some ⟨rb, 0, none⟩)) (by kernel_rfl) (by kernel_rfl) (by kernel_rfl) (by kernel_rfl) (by exact fun _ _ _ h => h) (by kernel_rfl) (by kernel_rfl) hS0 (fun o w' ho hs => ex_move ho (by kernel_rfl)) ?_
    refine hgt 5 18 kNil (.tmp 17) (.pointer (some ⟨rb, 0, none⟩)) (by kernel_rfl) (by kernel_rfl) (by kernel_rfl) (by kernel_rfl) (by exact fun _ _ _ h => h) (by kernel_rfl) (by kernel_rfl) hS0 (fun o w' ho hs => ex_nil ho (by kernel_rfl)) ?_
    refine hgt 6 19 kFA (42, .tmp 18, 2) (.pointer (some ⟨rb, 2, none⟩)) (by kernel_rfl) (by kernel_rfl) (by kernel_rfl) (by kernel_rfl) (by exact fun _ _ _ h => h) (by kernel_rfl) (by kernel_rfl) hS0 (fun o w' ho hs => ex_fa ho (by kernel_rfl) (FA2.out _)) ?_
    refine hgt 7 20 kLoad (39, .tmp 19) (.slice a0 st.seen.length c0) (by kernel_rfl) (by kernel_rfl) (by kernel_rfl) (by kernel_rfl) (by exact fun _ _ _ h => h) (by kernel_rfl) (by kernel_rfl) hS0 (fun o w' ho hs => ex_load ho (by kernel_rfl) (FL2.out _ hs)) ?_
    refine hgt 8 21 kMove (.tmp 1) (.string n) (by kernel_rfl) (by kernel_rfl) (by kernel_rfl) (by kernel_rfl) (by exact fun _ _ _ h => h) (by kernel_rfl) (by kernel_rfl) hS0 (fun o w' ho hs => ex_move ho (by kernel_rfl)) ?_
    refine hg1 9 (by kernel_rfl) ?_
    refine hg_call 22 58 [.tmp 20, .tmp 21] [.slice a0 st.seen.length c0, .string n] (by kernel_rfl) (by kernel_rfl) e_find HF.out ?_
    rintro e w2 ⟨rfl, rfl⟩
    refine ⟨_, rfl, .inr hS0, ?_⟩
    refine hg1 10 (by kernel_rfl) ?_
    refine hg_val 23 kIA (38, .tmp 16, .tmp 22) (.pointer (some ⟨g, kk * 2, none⟩)) (by kernel_rfl) (fun o ho => ex_ia ho (by kernel_rfl) (by kernel_rfl) (PI2.out _)) (.inr hS0) ?_
    refine hg1 11 (by kernel_rfl) ?_
    refine hg_val 24 kFA (97, .tmp 23, 0) (.pointer (some ⟨g, kk * 2, none⟩)) (by kernel_rfl) (fun o ho => ex_fa ho (by kernel_rfl) (PF2.out _)) (.inr hS0) ?_
    refine hg1 12 (by kernel_rfl) ?_
    refine hg_val 25 kLoad (33, .tmp 24) (.slice fa x.b.length fc) (by kernel_rfl) (fun o ho => ex_load ho (by kernel_rfl) (PL2.out _ hS0)) (.inr hS0) ?_
    refine hg1 13 (by kernel_rfl) ?_
    refine hg_val 4 kAssign (.tmp 25) (.slice fa x.b.length fc) (by kernel_rfl) (fun o ho => ex_assign ho (by kernel_rfl)) (.inr hS0) ?_
    refine hg1 14 (by kernel_rfl) ?_
    refine hg_val 5 kAssign (.const (.int .i64 0)) (.int .i64 0) (by kernel_rfl) (fun o ho => ex_assign ho (by kernel_rfl)) (.inl rfl) ?_
    refine hg_done (by kernel_rfl) ?_
    clear hS0
    go_wp2
    go_ret2
    refine ⟨fa, fc, ?_, HAT.out.bs.dep ((Fr.refl (fun _ => False) w1).drew) (fun _ _ _ => id), (Below.refl _ w1).drew⟩
    kernel_rfl
  · have t1 : (A != 0) = true := by simpa using hA
    rw [if_pos hA]
    go_enter Tryz.func20, Tryz.ntmps20
    go_wp2_with (go_at_call 61; refine HT.out.mono ?_; rintro e w1 ⟨rfl, rfl⟩)
    go_ret2
    exact ⟨none, 0, rfl, Bs.nil _ _, Below.refl _ _⟩
end Go.Proofs.YtgehalfnpbjjcaaGreat
/- hayloftref06: Fsync. -/
namespace Go.Proofs.YtgehalfnpbjjcaaGreat
open Go Go.RowKit Go.Sort
theorem modify_set {l : List RFil} {k : Nat} {x : RFil} (h : l[k]? = some x) (f : RFil → RFil) : l.modify k f = l.set k (f x) := by
  refine List.ext_getElem? fun i => ?_
  rw [List.getElem?_modify, List.getElem?_set]
  by_cases hik : k = i
  · subst hik
    rw [if_pos rfl, if_pos (List.getElem?_eq_some_iff.1 h).1, h]
    simp
  · rw [if_neg hik]
    cases l[i]? <;> simp [hik]
/-- A file is turned. -/
theorem RSt.Ok.set {st : RSt} (h : st.Ok) {k : Nat} {x : RFil} (hx : 0 ≤ x.safe ∧ x.safe ≤ x.b.length ∧ x.b.length ≤ 99000) : ({ st with files := st.files.set k x } : RSt).Ok where
  room0 := h.room0
  room1 := h.room1
  seenI := fun p hp => by
    have := h.seenI p hp
    show 0 ≤ p.2 ∧ p.2 < ((st.files.set k x).length : Int) ∧ _
    rw [List.length_set]
    exact this
  safeI := fun p hp => by
    have := h.safeI p hp
    show 0 ≤ p.2 ∧ p.2 < ((st.files.set k x).length : Int) ∧ _
    rw [List.length_set]
    exact this
  chgI := fun c hc => by
    have := h.chgI c hc
    show _ ∧ _ ∧ (c.kind ≠ 2 → 0 ≤ c.which ∧ c.which < ((st.files.set k x).length : Int))
    rw [List.length_set]
    exact this
  fil := fun y hy => by
    rcases List.mem_or_eq_of_mem_set hy with hy | rfl
    · exact h.fil y hy
    · exact hx
theorem RAt.shut {w : World} {F D : Nat → Prop} {rb : Nat} {st : RSt} {kk : Nat} {x : RFil} {fs : List (Value × RFil)} {g cf : Nat} {fa : Option Addr} {fc : Nat} {a0 : Option Addr} {c0 : Nat} {va vc : Value} (h : RAt w F D rb st kk x fs g cf fa fc a0 c0 va vc) (hok : st.Ok)
    {v' : Value} {y : RFil} (hb : Bs (fun k => D k → F k) w v' y.b) (hy : 0 ≤ y.safe ∧ y.safe ≤ y.b.length ∧ y.b.length ≤ 99000) {j : Nat} (hj : j < 2) {u : Value} (hu : (rfilC (.slice fa x.b.length fc, x)).set j u = rfilC (v', y)) (hlt : ∀ k, D k → k < w.heap.size) :
    RSr (w.setCell ⟨g, kk * 2 + j, none⟩ u) F D rb { st with files := st.files.set kk y } ∧ Fr F w (w.setCell ⟨g, kk * 2 + j, none⟩ u) := by
  obtain ⟨h1, h2⟩ := h.body.storeFil h.at_ (v', y) hb hj hu
  have hl : (fs.set kk (v', y)).length = fs.length := by simp
  rw [hl] at h1
  refine ⟨⟨hok.set hy, ⟨fs.set kk (v', y), _, _, _, _, ?_, h1, ?_⟩, fun k hk => Nat.lt_of_lt_of_le (hlt k hk) h2.size⟩, h2.mono (fun k _ e => e ▸ h.fg)⟩
  · rw [List.map_set, h.fil]
  · exact (h2.heap h.head (fun e => h.ne e.symm)).trans rfl
set_option maxHeartbeats 1000000 in
set_option maxRecDepth 100000 in
theorem r06Fsync_ok {F D : Nat → Prop} {rb : Nat} {st : RSt} (w : World) (h : RSr w F D rb st) (hl : st.seen.length ≤ 1000000) (n : ByteArray) :
    Calls Tryz.prog 27 #[.pointer (some ⟨rb, 0, none⟩), .string n] w fun e w' => e = .returned (.int .i64 (rfsync st n).2) ∧ ∃ F' D', RSr w' F' D' rb (rfsync st n).1 ∧ Turn F D F' D' w w' := by
  have mixed : Tryz.prog.follows .mixedOrders = true := by kernel_rfl
  have HT := hid (r06There_ok w h hl n)
  have hth := fun h0 => rthere_zero h.ok (n := n) h0
  have HST := hid (r06Step_ok w h)
  have HR := hid h
  have HTH := hid hth
  obtain ⟨g1, g2, g3, g4, g5⟩ := stepR_same st
  clear h hth
  unfold rfsync
  rw [rstepF_eq]
  generalize rthere st n = A at *
  generalize stepR st = R at *
  obtain ⟨s1, f1⟩ := R
  simp only at *
  by_cases hA : A = 0
  · subst hA
    rw [if_neg (by simp)]
    by_cases hf1 : f1 = 0
    · subst hf1
      rw [if_pos rfl]
      obtain ⟨_, kk, x, hkk, hx⟩ := HTH.out (by first | trivial | rfl)
      rw [← g1] at hkk
      rw [← g3] at hx
      have HL1 := hid (show s1.seen.length ≤ 1000000 by rw [g1]; exact hl)
      have hset : rset s1.files (rfind s1.seen n) (fun x => ⟨x.b, x.b.length⟩) = s1.files.set kk ⟨x.b, x.b.length⟩ := by
        unfold rset
        rw [hkk, Int.toNat_natCast, modify_set hx]
      simp only [hset]
      have HKK := hid hkk
      have HX := hid hx
      clear g1 g2 g3 g4 g5 hset hkk hx
      go_enter Tryz.func27, Tryz.ntmps27
      go_wp2_with fail
      refine HT.out.mono ?_
      rintro e w1 ⟨rfl, rfl⟩
      go_wp2_with fail
      refine HST.out.mono ?_
      rintro e w2 ⟨rfl, hr1, hfr1, hs1⟩
      obtain ⟨fs, g, cf, fa, fc, a0, c0, va, vc, hat⟩ := hr1.openAt HX.out
      have k2 : w2.cell? ⟨rb, 2, none⟩ = some (.slice a0 s1.seen.length c0) := cell_of_heap hat.head 2
      have HF := hid (r06Find_ok w2 s1.seen hat.body.seen n HL1.out)
      rw [HKK.out] at HF
      have hkf := (List.getElem?_eq_some_iff.1 hat.at_).1
      obtain ⟨cur, hg⟩ := hat.blk
      have HAT := hid hat
      have HG := hid hg
      have HR1 := hid hr1
      have HF1 := hid hfr1
      have FA1 := hid (fa1 (rb := rb))
      have FL1 := hid (show ∀ W, Fr (fun _ => False) w2 W → (Instr.loadAt 38 (.pointer (some ⟨rb, 1, none⟩))).run Tryz.prog W = .ok (.slice (some ⟨g, 0, none⟩) fs.length cf) W from fun W hW => ldf W (cell_of_heap (hW.heap HAT.out.head id) 1))
      have PI2 := hid (fun W => pi2 (g := g) W hkf hat.le1)
      have PF2 := hid (fun W => pf20 (g := g) (kk := kk) W)
      have PF3 := hid (fun W => pf21 (g := g) (kk := kk) W)
      have PL2 := hid (show ∀ W, Fr (fun _ => False) w2 W → (Instr.loadAt 33 (.pointer (some ⟨g, kk * 2, none⟩))).run Tryz.prog W = .ok (.slice fa x.b.length fc) W from fun W hW => ldb W ((hW.cell (p := ⟨g, kk * 2, none⟩) (lt_of_heap HG.out) id).trans HAT.out.q0))
      have PLN := hid (show ∀ ty cs W, (builtin .len #[33] ty cs #[.slice fa x.b.length fc]).run Tryz.prog W = .ok (.value (.int .i64 (x.b.length : Int))) W from fun ty cs W => by go_simp)
      have PST := hid (show (Instr.storeAt 3 (.pointer (some ⟨g, kk * 2 + 1, none⟩)) (.int .i64 (x.b.length : Int))).run Tryz.prog w2.drew = .ok () (w2.drew.setCell ⟨g, kk * 2 + 1, none⟩ (.int .i64 (x.b.length : Int))) from by
        have hc : w2.drew.cell? ⟨g, kk * 2 + 1, none⟩ = some (.int .i64 x.safe) := HAT.out.q1
        have hz := frozen_of (w := w2.drew) HG.out (kk * 2 + 1)
        go_simp)
      clear hat hg hkf hr1 hfr1 hs1
      go_wp2_with (go_at_call 58; refine HF.out.mono ?_; rintro e w5 ⟨rfl, rfl⟩)
      have hS0 : Fr (fun _ => False) w5 w5.drew := (Fr.refl _ w5).drew
      refine hg_start (fun W => Fr (fun _ => False) w5 W) 16 mixed ?_
      refine hgt 0 25 kMove (.tmp 0) (.pointer (some ⟨rb, 0, none⟩)) (by kernel_rfl) (by kernel_rfl) (by kernel_rfl) (by kernel_rfl) (by exact fun _ _ _ h => h) (by kernel_rfl) (by kernel_rfl) hS0 (fun o w' ho hs => ex_move ho (by kernel_rfl)) ?_
      refine hgt 1 26 kNil (.tmp 25) (.pointer (some ⟨rb, 0, none⟩)) (by kernel_rfl) (by kernel_rfl) (by kernel_rfl) (by kernel_rfl) (by exact fun _ _ _ h => h) (by kernel_rfl) (by kernel_rfl) hS0 (fun o w' ho hs => ex_nil ho (by kernel_rfl)) ?_
      refine hgt 2 27 kFA (42, .tmp 26, 1) (.pointer (some ⟨rb, 1, none⟩)) (by kernel_rfl) (by kernel_rfl) (by kernel_rfl) (by kernel_rfl) (by exact fun _ _ _ h => h) (by kernel_rfl) (by kernel_rfl) hS0 (fun o w' ho hs => ex_fa ho (by kernel_rfl) (FA1.out _)) ?_
      refine hgt 3 28 kLoad (38, .tmp 27) (.slice (some ⟨g, 0, none⟩) fs.length cf) (by kernel_rfl) (by kernel_rfl) (by kernel_rfl) (by kernel_rfl) (by exact fun _ _ _ h => h) (by kernel_rfl) (by kernel_rfl) hS0 (fun o w' ho hs => ex_load ho (by kernel_rfl) (FL1.out _ hs)) ?_
      refine hgt 4 29 kMove (.tmp 7) (.int .i64 (kk : Int)) (by kernel_rfl) (by kernel_rfl) (by kernel_rfl) (by kernel_rfl) (by exact fun _ _ _ h => h) (by kernel_rfl) (by kernel_rfl) hS0 (fun o w' ho hs => ex_move ho (by kernel_rfl)) ?_
      refine hgt 5 30 kMove (.tmp 0) (.pointer (some ⟨rb, 0, none⟩)) (by kernel_rfl) (by kernel_rfl) (by kernel_rfl) (by kernel_rfl) (by exact fun _ _ _ h => h) (by kernel_rfl) (by kernel_rfl) hS0 (fun o w' ho hs => ex_move ho (by kernel_rfl)) ?_
      refine hgt 6 31 kNil (.tmp 30) (.pointer (some ⟨rb, 0, none⟩)) (by kernel_rfl) (by kernel_rfl) (by kernel_rfl) (by kernel_rfl) (by exact fun _ _ _ h => h) (by kernel_rfl) (by kernel_rfl) hS0 (fun o w' ho hs => ex_nil ho (by kernel_rfl)) ?_
      refine hgt 7 32 kFA (42, .tmp 31, 1) (.pointer (some ⟨rb, 1, none⟩)) (by kernel_rfl) (by kernel_rfl) (by kernel_rfl) (by kernel_rfl) (by exact fun _ _ _ h => h) (by kernel_rfl) (by kernel_rfl) hS0 (fun o w' ho hs => ex_fa ho (by kernel_rfl) (FA1.out _)) ?_
      refine hgt 8 33 kLoad (38, .tmp 32) (.slice (some ⟨g, 0, none⟩) fs.length cf) (by kernel_rfl) (by kernel_rfl) (by kernel_rfl) (by kernel_rfl) (by exact fun _ _ _ h => h) (by kernel_rfl) (by kernel_rfl) hS0 (fun o w' ho hs => ex_load ho (by kernel_rfl) (FL1.out _ hs)) ?_
      refine hgt 9 34 kMove (.tmp 7) (.int .i64 (kk : Int)) (by kernel_rfl) (by kernel_rfl) (by kernel_rfl) (by kernel_rfl) (by exact fun _ _ _ h => h) (by kernel_rfl) (by kernel_rfl) hS0 (fun o w' ho hs => ex_move ho (by kernel_rfl)) ?_
      refine hgt 10 35 kIA (38, .tmp 33, .tmp 34) (.pointer (some ⟨g, kk * 2, none⟩)) (by kernel_rfl) (by kernel_rfl) (by kernel_rfl) (by kernel_rfl) (by exact fun _ _ _ h => h) (by kernel_rfl) (by kernel_rfl) hS0 (fun o w' ho hs => ex_ia ho (by kernel_rfl) (by kernel_rfl) (PI2.out _)) ?_
      refine hgt 11 36 kFA (97, .tmp 35, 0) (.pointer (some ⟨g, kk * 2, none⟩)) (by kernel_rfl) (by kernel_rfl) (by kernel_rfl) (by kernel_rfl) (by exact fun _ _ _ h => h) (by kernel_rfl) (by kernel_rfl) hS0 (fun o w' ho hs => ex_fa ho (by kernel_rfl) (PF2.out _)) ?_
      refine hgt 12 37 kLoad (33, .tmp 36) (.slice fa x.b.length fc) (by kernel_rfl) (by kernel_rfl) (by kernel_rfl) (by kernel_rfl) (by exact fun _ _ _ h => h) (by kernel_rfl) (by kernel_rfl) hS0 (fun o w' ho hs => ex_load ho (by kernel_rfl) (PL2.out _ hs)) ?_
      refine hgt 13 38 kBi (.len, [.tmp 37], [33]) (.int .i64 (x.b.length : Int)) (by kernel_rfl) (by kernel_rfl) (by kernel_rfl) (by kernel_rfl) (by exact fun _ _ _ h => h) (by kernel_rfl) (by kernel_rfl) hS0 (fun o w' ho hs => ex_bi (vs := [.slice fa x.b.length fc]) ho (by kernel_rfl) (fun ty cs => PLN.out ty cs _)) ?_
      refine hg1 14 (by kernel_rfl) ?_
      refine hg_val 39 kIA (38, .tmp 28, .tmp 29) (.pointer (some ⟨g, kk * 2, none⟩)) (by kernel_rfl) (fun o ho => ex_ia ho (by kernel_rfl) (by kernel_rfl) (PI2.out _)) (.inr hS0) ?_
      refine hg1 15 (by kernel_rfl) ?_
      refine hg_val 40 kFA (97, .tmp 39, 1) (.pointer (some ⟨g, kk * 2 + 1, none⟩)) (by kernel_rfl) (fun o ho => ex_fa ho (by kernel_rfl) (PF3.out _)) (.inr hS0) ?_
      refine hg1 16 (by kernel_rfl) ?_
      refine hg_store 3 (.tmp 40) (.tmp 38) (.pointer (some ⟨g, kk * 2 + 1, none⟩)) (.int .i64 (x.b.length : Int)) (by kernel_rfl) (by kernel_rfl) (by kernel_rfl) PST.out (.inl rfl) ?_
      refine hg_done (by kernel_rfl) ?_
      have hxo := HR1.out.ok.fil x (List.mem_of_getElem? HX.out)
      obtain ⟨h1, h2⟩ := HAT.out.shut HR1.out.ok (v' := .slice fa x.b.length fc) (y := ⟨x.b, x.b.length⟩) HAT.out.bs ⟨by show (0 : Int) ≤ (x.b.length : Int); omega, Int.le_refl _, hxo.2.2⟩ (j := 1) (by decide) (u := .int .i64 (x.b.length : Int)) rfl HR1.out.lt
      have H1 := hid (h1.fr ((Fr.refl (fun _ => False) _).drew) (fun _ _ => id))
      have H2 := hid h2.drew
      clear h1 h2 hS0 hxo PST PLN PL2 PI2 PF2 PF3 FA1 FL1
      go_wp2
      go_ret
      exact ⟨rfl, F, D, H1.out, (HR1.out.stepped HF1.out).fr.trans H2.out, fun _ h => .inl h, fun _ h => .inl h⟩
    · have t1 : (f1 != 0) = true := by simpa using hf1
      rw [if_neg hf1]
      clear g1 g2 g3 g4 g5
      go_enter Tryz.func27, Tryz.ntmps27
      go_wp2_with (first | (go_at_call 61; refine HT.out.mono ?_; rintro e w1 ⟨rfl, rfl⟩) | (go_at_call 59; refine HST.out.mono ?_; rintro e w2 ⟨rfl, hr1, hf1, hs1⟩; have HR1 := hid hr1; have HF1 := hid hf1; clear hr1 hf1 hs1))
      go_ret
      exact ⟨rfl, F, D, HR1.out, HR1.out.stepped HF1.out⟩
  · have t1 : (A != 0) = true := by simpa using hA
    rw [if_pos hA]
    clear g1 g2 g3 g4 g5
    go_enter Tryz.func27, Tryz.ntmps27
    go_wp2_with (go_at_call 61; refine HT.out.mono ?_; rintro e w1 ⟨rfl, rfl⟩)
    go_ret
    exact ⟨rfl, F, D, HR.out, Turn.refl _ _ _⟩
end Go.Proofs.YtgehalfnpbjjcaaGreat
/- hayloftref06: New, Append. -/
namespace Go.Proofs.YtgehalfnpbjjcaaGreat
open Go Go.RowKit Go.Sort
theorem rlen_used {st : RSt} {p : ByteArray × Int} (hp : p ∈ st.seen) : rlen st p.2 ≤ rused st := by
  unfold rused
  have h : ∀ l : RDir, p ∈ l → rlen st p.2 ≤ (l.map fun p => rlen st p.2).sum := fun l => by
    induction l with
    | nil => intro h; simp at h
    | cons a l ih =>
      intro h
      simp only [List.map_cons, List.sum_cons]
      rcases List.mem_cons.1 h with rfl | h
      · omega
      · have := ih h; omega
  exact h _ hp
theorem rused_le {st : RSt} (h : st.Ok) : rused st ≤ st.seen.length * 99000 := by
  rw [← rsum_all]; exact rsum_le h _
def rnewF (room : Int) : RSt := ⟨room, [], [], [], [], -1, false, 0⟩
theorem rnewF_ok {room : Int} (h0 : 0 ≤ room) (h1 : room ≤ 99000) : (rnewF room).Ok := ⟨h0, h1, by simp [rnewF], by simp [rnewF], by simp [rnewF], by simp [rnewF]⟩
/-- A struct without lists. -/
theorem bare_rsr {w : World} {rb : Nat} {st : RSt} (hh : w.heap[rb]? = some (.cells (rfsC st (.slice none 0 0) (.slice none 0 0) (.slice none 0 0) (.slice none 0 0)) 42 (0, 0))) (hok : st.Ok) (h1 : st.files = []) (h2 : st.seen = []) (h3 : st.safe = []) (h4 : st.chg = []) : RSr w (· = rb) (· = rb) rb st := by
  have hr : Row (fun k => k = rb → k = rb) w (.slice none 0 0) 0 2 [] := ⟨rfl, none, 0, rfl, ⟨Nat.le_refl _, by omega, Nat.zero_le _⟩, fun _ => rfl, .inl rfl⟩
  have hm : ∀ k, mine (.slice none 0 0) k → k = rb := fun k hk => by obtain ⟨off, m, c, hv, hc⟩ := hk; cases hv
  refine ⟨hok, ⟨[], _, _, _, _, by rw [h1]; rfl, ?_, hh⟩, fun k hk => by rw [hk]; exact lt_of_heap hh⟩
  rw [h2, h3, h4]
  exact ⟨⟨_, hh⟩, rfl, Own.nil _ _ _ _, by simp, hr, hr, Own.nil _ _ _ _, hm, hm, fun _ h => h⟩
set_option maxRecDepth 100000 in
theorem r06New_ok (w : World) (n : Int) (h0 : 0 ≤ n) (h1 : n ≤ 99000) : Calls Tryz.prog 7 #[.int .i64 n] w fun e w' => ∃ rb, e = .returned (.tuple #[.pointer (some ⟨rb, 0, none⟩), .int .i64 0]) ∧ ∃ F, RSr w' F F rb (rnewF n) ∧ (∀ k, F k → w.heap.size ≤ k) ∧ Below w.heap.size w w' := by
  have g0 : ¬ n < 0 := by omega
  have g1 : ¬ (99000 : Int) < n := by omega
  go_enter Tryz.func7, Tryz.ntmps7
  go_wp2
  go_ret2
  refine ⟨w.heap.size, rfl, _, bare_rsr ((heap_alloc_new w _).trans rfl) (rnewF_ok h0 h1) rfl rfl rfl rfl, fun k hk => by omega, (Below.refl _ _).alloc (Nat.le_refl _) _⟩
section
variable {w w' : World} {F D : Nat → Prop} {rb : Nat} {st : RSt} {kk : Nat} {x : RFil} {fs : List (Value × RFil)} {g cf : Nat} {fa : Option Addr} {fc : Nat} {a0 : Option Addr} {c0 : Nat} {va vc : Value}
theorem RAt.grow (h : RAt w F D rb st kk x fs g cf fa fc a0 c0 va vc) {D' : Nat → Prop} (hD : ∀ k, D k → D' k) : RAt w F D' rb st kk x fs g cf fa fc a0 c0 va vc :=
  ⟨h.fil, h.body.grow (fun _ h => h) hD (fun k hk => hD k (h.body.sub k hk)) (fun _ _ h => h), h.head, h.at_, h.blk, h.le1, h.le2, h.q0, h.q1, h.bs.mono (fun k _ hs hd => hs (hD k hd)), h.fit, h.ne, h.fg⟩
theorem RAt.below (h : RAt w F D rb st kk x fs g cf fa fc a0 c0 va vc) (hb : Below w.heap.size w w') : RAt w' F D rb st kk x fs g cf fa fc a0 c0 va vc := by
  have hf : Fr (fun _ => False) w w' := Fr.of_below hb
  obtain ⟨cur, hg⟩ := h.blk
  have hgl := lt_of_heap hg
  exact ⟨h.fil, h.body.below hb, hf.heap h.head id, h.at_, ⟨cur, hf.heap hg id⟩, h.le1, h.le2, (hf.cell (p := ⟨g, kk * 2, none⟩) hgl id).trans h.q0, (hf.cell (p := ⟨g, kk * 2 + 1, none⟩) hgl id).trans h.q1, h.bs.fr hf (fun _ _ h => h.elim), h.fit, h.ne, h.fg⟩
end
set_option maxHeartbeats 1000000 in
set_option maxRecDepth 100000 in
theorem r06Append_ok {F D : Nat → Prop} {rb : Nat} {st : RSt} (w : World) (h : RSr w F D rb st) (hl : st.seen.length ≤ 1000000) (n : ByteArray) (v : Value) (ys : List UInt8) (hv : Bs F w v ys) (hys : ys.length ≤ 100000) :
    Calls Tryz.prog 19 #[.pointer (some ⟨rb, 0, none⟩), .string n, v] w fun e w' => e = .returned (.int .i64 (rappend st n ys).2) ∧ ∃ F' D', RSr w' F' D' rb (rappend st n ys).1 ∧ Turn F D F' D' w w' := by
  have mixed : Tryz.prog.follows .mixedOrders = true := by kernel_rfl
  have HV := hid hv
  obtain ⟨ay, cy, rfl, ⟨hy1, hy2, hy3⟩, _⟩ := hv
  have HT := hid (r06There_ok w h hl n)
  have hth := fun h0 => rthere_zero h.ok (n := n) h0
  have HR := hid h
  have HTH := hid hth
  have HU := hid (r06Used_ok w.drew (h.fr ((Fr.refl (fun _ => False) w).drew) (fun _ _ => id)) hl)
  obtain ⟨g1, g2, g3, g4, g5⟩ := stepR_same st
  have hul := rused_le h.ok
  have hr0 := h.ok.room0
  have hr1' := h.ok.room1
  obtain ⟨vf, vs, va, vc, hh⟩ := h.head
  have PLY := hid (show ∀ ty cs W, (builtin .len #[33] ty cs #[.slice ay ys.length cy]).run Tryz.prog W = .ok (.value (.int .i64 (ys.length : Int))) W from fun ty cs W => by go_simp)
  have FA0 := hid (show ∀ W, (Instr.fieldAt 42 (.pointer (some ⟨rb, 0, none⟩)) 0).run Tryz.prog W = .ok (.pointer (some ⟨rb, 0, none⟩)) W from fun W => by go_simp)
  have FL0 := hid (show ∀ W, Below w.heap.size w W → (Instr.loadAt 3 (.pointer (some ⟨rb, 0, none⟩))).run Tryz.prog W = .ok (.int .i64 st.room) W from fun W hW => ldi W (cell_of_heap ((Fr.of_below hW : Fr (fun _ => False) w W).heap hh id) 0))
  have PSB := hid (show ∀ W, (binOp .sub 3 (.int .i64 st.room) (.int .i64 (rused st : Int))).run Tryz.prog W = .ok (.int .i64 (st.room - (rused st : Int))) W from fun W => by
    have h9 : IntKind.i64.wrap (st.room - (rused st : Int)) = st.room - (rused st : Int) := IntWalk.i64_in _ (by omega)
    go_simp)
  clear h hth hh hul
  unfold rappend
  rw [rstepF_eq]
  generalize rthere st n = A at *
  by_cases hA : A = 0
  · subst hA
    rw [if_neg (by simp)]
    by_cases hsp : st.room - rused st < ys.length
    · rw [if_pos hsp]
      have PGT := hid (show ∀ W, (binOp .gtr 3 (.int .i64 (ys.length : Int)) (.int .i64 (st.room - (rused st : Int)))).run Tryz.prog W = .ok (.bool true) W from fun W => by
        have h9 : decide (st.room - (rused st : Int) < (ys.length : Int)) = true := decide_eq_true hsp
        clear hsp
        go_simp
        try simpa using h9)
      clear g1 g2 g3 g4 g5 hsp
      go_enter Tryz.func19, Tryz.ntmps19
      go_wp2_with fail
      refine HT.out.mono ?_
      rintro e w1 ⟨rfl, rfl⟩
      go_wp2_with fail
      have e_used : ∀ args w, (callFunc 45 args).run Tryz.prog w = .ok (.enter 45 args) w := enters_of Tryz.func45 rfl rfl
      have hS0 : Below w1.heap.size w1 w1.drew := (Below.refl _ w1).drew
      refine hg_start (fun W => Below w1.heap.size w1 W) 99 mixed ?_
      refine hgt 0 16 kMove (.tmp 2) (.slice ay ys.length cy) (by kernel_rfl) (by kernel_rfl) (by kernel_rfl) (by kernel_rfl) (by exact fun _ _ _ h => h) (by kernel_rfl) (by kernel_rfl) hS0 (fun o w' ho hs => ex_move ho (by kernel_rfl)) ?_
      refine hgt 1 17 kBi (.len, [.tmp 16], [33]) (.int .i64 (ys.length : Int)) (by kernel_rfl) (by kernel_rfl) (by kernel_rfl) (by kernel_rfl) (by exact fun _ _ _ h => h) (by kernel_rfl) (by kernel_rfl) hS0 (fun o w' ho hs => ex_bi (vs := [.slice ay ys.length cy]) ho (by kernel_rfl) (fun ty cs => PLY.out ty cs _)) ?_
      refine hgt 2 18 kMove (.tmp 0) (.pointer (some ⟨rb, 0, none⟩)) (by kernel_rfl) (by kernel_rfl) (by kernel_rfl) (by kernel_rfl) (by exact fun _ _ _ h => h) (by kernel_rfl) (by kernel_rfl) hS0 (fun o w' ho hs => ex_move ho (by kernel_rfl)) ?_
      refine hgt 3 19 kNil (.tmp 18) (.pointer (some ⟨rb, 0, none⟩)) (by kernel_rfl) (by kernel_rfl) (by kernel_rfl) (by kernel_rfl) (by exact fun _ _ _ h => h) (by kernel_rfl) (by kernel_rfl) hS0 (fun o w' ho hs => ex_nil ho (by kernel_rfl)) ?_
      refine hgt 4 20 kFA (42, .tmp 19, 0) (.pointer (some ⟨rb, 0, none⟩)) (by kernel_rfl) (by kernel_rfl) (by kernel_rfl) (by kernel_rfl) (by exact fun _ _ _ h => h) (by kernel_rfl) (by kernel_rfl) hS0 (fun o w' ho hs => ex_fa ho (by kernel_rfl) (FA0.out _)) ?_
      refine hgt 5 21 kLoad (3, .tmp 20) (.int .i64 st.room) (by kernel_rfl) (by kernel_rfl) (by kernel_rfl) (by kernel_rfl) (by exact fun _ _ _ h => h) (by kernel_rfl) (by kernel_rfl) hS0 (fun o w' ho hs => ex_load ho (by kernel_rfl) (FL0.out _ hs)) ?_
      refine hgt 6 22 kMove (.tmp 0) (.pointer (some ⟨rb, 0, none⟩)) (by kernel_rfl) (by kernel_rfl) (by kernel_rfl) (by kernel_rfl) (by exact fun _ _ _ h => h) (by kernel_rfl) (by kernel_rfl) hS0 (fun o w' ho hs => ex_move ho (by kernel_rfl)) ?_
      refine hg1 7 (by kernel_rfl) ?_
      refine hg_call 23 45 [.tmp 22] [.pointer (some ⟨rb, 0, none⟩)] (by kernel_rfl) (by kernel_rfl) e_used HU.out ?_
      rintro e wu ⟨rfl, hbu⟩
      have hS1 : Below w1.heap.size w1 wu := Below.below hS0 hbu
      refine ⟨_, rfl, .inr hS1, ?_⟩
      refine hg1 8 (by kernel_rfl) ?_
      refine hg_val 24 kBin (.sub, 3, .tmp 21, .tmp 23) (.int .i64 (st.room - (rused st : Int))) (by kernel_rfl) (fun o ho => ex_bin (vx := .int .i64 st.room) (vy := .int .i64 (rused st : Int)) ho (by kernel_rfl) (by kernel_rfl) rfl (PSB.out _)) (.inr hS1) ?_
      refine hg1 9 (by kernel_rfl) ?_
      refine hg_val 25 kBin (.gtr, 3, .tmp 17, .tmp 24) (.bool true) (by kernel_rfl) (fun o ho => ex_bin (vx := .int .i64 (ys.length : Int)) (vy := .int .i64 (st.room - (rused st : Int))) ho (by kernel_rfl) (by kernel_rfl) rfl (PGT.out _)) (.inr hS1) ?_
      refine hg_done (by kernel_rfl) ?_
      have HBU := hid hS1
      clear hS0 hS1 hbu PLY FA0 FL0 HU PSB PGT
      refine (‹∀ (a : Act) (w : World), Code.wp Tryz.prog (Code.cond (.tmp 25) _ _) _ a w → _› _ _ ?_)
      refine wp_cond_true (by kernel_rfl) ?_
      go_wp2
      go_ret
      exact ⟨rfl, F, D, HR.out.below HBU.out, Turn.of_below HBU.out⟩
    · rw [if_neg hsp]
      have PGT := hid (show ∀ W, (binOp .gtr 3 (.int .i64 (ys.length : Int)) (.int .i64 (st.room - (rused st : Int)))).run Tryz.prog W = .ok (.bool false) W from fun W => by
        have h9 : decide (st.room - (rused st : Int) < (ys.length : Int)) = false := decide_eq_false hsp
        clear hsp
        go_simp
        try simpa using h9)
      obtain ⟨_, kk, x, hkk, hx⟩ := HTH.out (by first | trivial | rfl)
      have hxr : (x.b.length : Int) + ys.length ≤ 99000 := by
        have hkp : (0 : Int) ≤ rfind st.seen n := by rw [hkk]; omega
        obtain ⟨p, hp, _, he⟩ := rfind_mem hkp
        have h1 := rlen_used (st := st) hp
        have h2 : rlen st p.2 = x.b.length := by
          rw [he, hkk]
          unfold rlen
          rw [Int.toNat_natCast, hx]
        omega
      have hss := HR.out
      have HST := hid (fun W (hW : RSr W F D rb st) => r06Step_ok W hW)
      generalize stepR st = R at *
      obtain ⟨s1, f1⟩ := R
      simp only at *
      by_cases hf1 : f1 = 0
      · subst hf1
        rw [if_pos rfl]
        rw [← g1] at hkk
        rw [← g3] at hx
        have HL1 := hid (show s1.seen.length ≤ 1000000 by rw [g1]; exact hl)
        have hset : rset s1.files (rfind s1.seen n) (fun x => ⟨x.b ++ ys, x.safe⟩) = s1.files.set kk ⟨x.b ++ ys, x.safe⟩ := by
          unfold rset
          rw [hkk, Int.toNat_natCast, modify_set hx]
        simp only [hset]
        have HKK := hid hkk
        have HX := hid hx
        have HXR := hid hxr
        clear g1 g2 g3 g4 g5 hset hkk hx hxr hss hsp
        go_enter Tryz.func19, Tryz.ntmps19
        go_wp2_with fail
        refine HT.out.mono ?_
        rintro e w1 ⟨rfl, rfl⟩
        go_wp2_with fail
        have e_used : ∀ args w, (callFunc 45 args).run Tryz.prog w = .ok (.enter 45 args) w := enters_of Tryz.func45 rfl rfl
        have hS0 : Below w1.heap.size w1 w1.drew := (Below.refl _ w1).drew
        refine hg_start (fun W => Below w1.heap.size w1 W) 99 mixed ?_
        refine hgt 0 16 kMove (.tmp 2) (.slice ay ys.length cy) (by kernel_rfl) (by kernel_rfl) (by kernel_rfl) (by kernel_rfl) (by exact fun _ _ _ h => h) (by kernel_rfl) (by kernel_rfl) hS0 (fun o w' ho hs => ex_move ho (by kernel_rfl)) ?_
        refine hgt 1 17 kBi (.len, [.tmp 16], [33]) (.int .i64 (ys.length : Int)) (by kernel_rfl) (by kernel_rfl) (by kernel_rfl) (by kernel_rfl) (by exact fun _ _ _ h => h) (by kernel_rfl) (by kernel_rfl) hS0 (fun o w' ho hs => ex_bi (vs := [.slice ay ys.length cy]) ho (by kernel_rfl) (fun ty cs => PLY.out ty cs _)) ?_
        refine hgt 2 18 kMove (.tmp 0) (.pointer (some ⟨rb, 0, none⟩)) (by kernel_rfl) (by kernel_rfl) (by kernel_rfl) (by kernel_rfl) (by exact fun _ _ _ h => h) (by kernel_rfl) (by kernel_rfl) hS0 (fun o w' ho hs => ex_move ho (by kernel_rfl)) ?_
        refine hgt 3 19 kNil (.tmp 18) (.pointer (some ⟨rb, 0, none⟩)) (by kernel_rfl) (by kernel_rfl) (by kernel_rfl) (by kernel_rfl) (by exact fun _ _ _ h => h) (by kernel_rfl) (by kernel_rfl) hS0 (fun o w' ho hs => ex_nil ho (by kernel_rfl)) ?_
        refine hgt 4 20 kFA (42, .tmp 19, 0) (.pointer (some ⟨rb, 0, none⟩)) (by kernel_rfl) (by kernel_rfl) (by kernel_rfl) (by kernel_rfl) (by exact fun _ _ _ h => h) (by kernel_rfl) (by kernel_rfl) hS0 (fun o w' ho hs => ex_fa ho (by kernel_rfl) (FA0.out _)) ?_
        refine hgt 5 21 kLoad (3, .tmp 20) (.int .i64 st.room) (by kernel_rfl) (by kernel_rfl) (by kernel_rfl) (by kernel_rfl) (by exact fun _ _ _ h => h) (by kernel_rfl) (by kernel_rfl) hS0 (fun o w' ho hs => ex_load ho (by kernel_rfl) (FL0.out _ hs)) ?_
        refine hgt 6 22 kMove (.tmp 0) (.pointer (some ⟨rb, 0, none⟩)) (by kernel_rfl) (by kernel_rfl) (by kernel_rfl) (by kernel_rfl) (by exact fun _ _ _ h => h) (by kernel_rfl) (by kernel_rfl) hS0 (fun o w' ho hs => ex_move ho (by kernel_rfl)) ?_
        refine hg1 7 (by kernel_rfl) ?_
        refine hg_call 23 45 [.tmp 22] [.pointer (some ⟨rb, 0, none⟩)] (by kernel_rfl) (by kernel_rfl) e_used HU.out ?_
        rintro e wu ⟨rfl, hbu⟩
        have hS1 : Below w1.heap.size w1 wu := Below.below hS0 hbu
        refine ⟨_, rfl, .inr hS1, ?_⟩
        refine hg1 8 (by kernel_rfl) ?_
        refine hg_val 24 kBin (.sub, 3, .tmp 21, .tmp 23) (.int .i64 (st.room - (rused st : Int))) (by kernel_rfl) (fun o ho => ex_bin (vx := .int .i64 st.room) (vy := .int .i64 (rused st : Int)) ho (by kernel_rfl) (by kernel_rfl) rfl (PSB.out _)) (.inr hS1) ?_
        refine hg1 9 (by kernel_rfl) ?_
        refine hg_val 25 kBin (.gtr, 3, .tmp 17, .tmp 24) (.bool false) (by kernel_rfl) (fun o ho => ex_bin (vx := .int .i64 (ys.length : Int)) (vy := .int .i64 (st.room - (rused st : Int))) ho (by kernel_rfl) (by kernel_rfl) rfl (PGT.out _)) (.inr hS1) ?_
        refine hg_done (by kernel_rfl) ?_
        have HBU := hid hS1
        clear hS0 hS1 hbu PLY FA0 FL0 HU PSB PGT
        refine (‹∀ (a : Act) (w : World), Code.wp Tryz.prog (Code.cond (.tmp 25) _ _) _ a w → _› _ _ ?_)
        refine wp_cond_false (by kernel_rfl) ?_
        go_wp2_with fail
        refine (HST.out _ (HR.out.below HBU.out)).mono ?_
        rintro e w2 ⟨rfl, hr1, hfr1, hs1⟩
        obtain ⟨fs, g, cf, fa, fc, a0, c0, va, vc, hat⟩ := hr1.openAt HX.out
        have k2 : w2.cell? ⟨rb, 2, none⟩ = some (.slice a0 s1.seen.length c0) := cell_of_heap hat.head 2
        have HF := hid (r06Find_ok w2 s1.seen hat.body.seen n HL1.out)
        rw [HKK.out] at HF
        have hkf := (List.getElem?_eq_some_iff.1 hat.at_).1
        obtain ⟨cur, hg⟩ := hat.blk
        have HAT := hid hat
        have HG := hid hg
        have HR1 := hid hr1
        have HF1 := hid hfr1
        have hv2 : Bs F w2 (.slice ay ys.length cy) ys := (HV.out.fr (Fr.of_below HBU.out : Fr (fun _ => False) w1 wu) (fun _ _ h => h.elim)).fr hfr1 (fun k _ e => e ▸ hat.body.self)
        have HV2 := hid hv2
        have FA1 := hid (fa1 (rb := rb))
        have FL1 := hid (show ∀ W, Below w2.heap.size w2 W → (Instr.loadAt 38 (.pointer (some ⟨rb, 1, none⟩))).run Tryz.prog W = .ok (.slice (some ⟨g, 0, none⟩) fs.length cf) W from fun W hW => ldf W (cell_of_heap ((Fr.of_below hW : Fr (fun _ => False) w2 W).heap HAT.out.head id) 1))
        have PI2 := hid (fun W => pi2 (g := g) W hkf hat.le1)
        have PF2 := hid (fun W => pf20 (g := g) (kk := kk) W)
        have PL2 := hid (show ∀ W, Below w2.heap.size w2 W → (Instr.loadAt 33 (.pointer (some ⟨g, kk * 2, none⟩))).run Tryz.prog W = .ok (.slice fa x.b.length fc) W from fun W hW => ldb W (((Fr.of_below hW : Fr (fun _ => False) w2 W).cell (p := ⟨g, kk * 2, none⟩) (lt_of_heap HG.out) id).trans HAT.out.q0))
        have FX := hid (show ∀ W, (Instr.buildSlice 33 0 #[]).run Tryz.prog W = .ok (.slice (some ⟨W.heap.size, 0, none⟩) 0 0) (W.alloc (.cells #[] 5)) from fun W => by go_simp)
        clear hat hg hkf hr1 hfr1 hs1 hv2
        go_wp2_with (go_at_call 58; refine HF.out.mono ?_; rintro e w5 ⟨rfl, rfl⟩)
        have hS0 : Below w5.heap.size w5 w5.drew := (Below.refl _ w5).drew
        refine hg_start (fun W => Below w5.heap.size w5 W) 19 mixed ?_
        refine hgt 0 37 kMove (.tmp 0) (.pointer (some ⟨rb, 0, none⟩)) (by kernel_rfl) (by kernel_rfl) (by kernel_rfl) (by kernel_rfl) (by exact fun _ _ _ h => h) (by kernel_rfl) (by kernel_rfl) hS0 (fun o w' ho hs => ex_move ho (by kernel_rfl)) ?_
        refine hgt 1 38 kNil (.tmp 37) (.pointer (some ⟨rb, 0, none⟩)) (by kernel_rfl) (by kernel_rfl) (by kernel_rfl) (by kernel_rfl) (by exact fun _ _ _ h => h) (by kernel_rfl) (by kernel_rfl) hS0 (fun o w' ho hs => ex_nil ho (by kernel_rfl)) ?_
        refine hgt 2 39 kFA (42, .tmp 38, 1) (.pointer (some ⟨rb, 1, none⟩)) (by kernel_rfl) (by kernel_rfl) (by kernel_rfl) (by kernel_rfl) (by exact fun _ _ _ h => h) (by kernel_rfl) (by kernel_rfl) hS0 (fun o w' ho hs => ex_fa ho (by kernel_rfl) (FA1.out _)) ?_
        refine hgt 3 40 kLoad (38, .tmp 39) (.slice (some ⟨g, 0, none⟩) fs.length cf) (by kernel_rfl) (by kernel_rfl) (by kernel_rfl) (by kernel_rfl) (by exact fun _ _ _ h => h) (by kernel_rfl) (by kernel_rfl) hS0 (fun o w' ho hs => ex_load ho (by kernel_rfl) (FL1.out _ hs)) ?_
        refine hgt 4 41 kMove (.tmp 9) (.int .i64 (kk : Int)) (by kernel_rfl) (by kernel_rfl) (by kernel_rfl) (by kernel_rfl) (by exact fun _ _ _ h => h) (by kernel_rfl) (by kernel_rfl) hS0 (fun o w' ho hs => ex_move ho (by kernel_rfl)) ?_
        refine hgt 6 43 kMove (.tmp 0) (.pointer (some ⟨rb, 0, none⟩)) (by kernel_rfl) (by kernel_rfl) (by kernel_rfl) (by kernel_rfl) (by exact fun _ _ _ h => h) (by kernel_rfl) (by kernel_rfl) hS0 (fun o w' ho hs => ex_move ho (by kernel_rfl)) ?_
        refine hgt 7 44 kNil (.tmp 43) (.pointer (some ⟨rb, 0, none⟩)) (by kernel_rfl) (by kernel_rfl) (by kernel_rfl) (by kernel_rfl) (by exact fun _ _ _ h => h) (by kernel_rfl) (by kernel_rfl) hS0 (fun o w' ho hs => ex_nil ho (by kernel_rfl)) ?_
        refine hgt 8 45 kFA (42, .tmp 44, 1) (.pointer (some ⟨rb, 1, none⟩)) (by kernel_rfl) (by kernel_rfl) (by kernel_rfl) (by kernel_rfl) (by exact fun _ _ _ h => h) (by kernel_rfl) (by kernel_rfl) hS0 (fun o w' ho hs => ex_fa ho (by kernel_rfl) (FA1.out _)) ?_
        refine hgt 9 46 kLoad (38, .tmp 45) (.slice (some ⟨g, 0, none⟩) fs.length cf) (by kernel_rfl) (by kernel_rfl) (by kernel_rfl) (by kernel_rfl) (by exact fun _ _ _ h => h) (by kernel_rfl) (by kernel_rfl) hS0 (fun o w' ho hs => ex_load ho (by kernel_rfl) (FL1.out _ hs)) ?_
        refine hgt 10 47 kMove (.tmp 9) (.int .i64 (kk : Int)) (by kernel_rfl) (by kernel_rfl) (by kernel_rfl) (by kernel_rfl) (by exact fun _ _ _ h => h) (by kernel_rfl) (by kernel_rfl) hS0 (fun o w' ho hs => ex_move ho (by kernel_rfl)) ?_
        refine hgt 11 48 kIA (38, .tmp 46, .tmp 47) (.pointer (some ⟨g, kk * 2, none⟩)) (by kernel_rfl) (by kernel_rfl) (by kernel_rfl) (by kernel_rfl) (by exact fun _ _ _ h => h) (by kernel_rfl) (by kernel_rfl) hS0 (fun o w' ho hs => ex_ia ho (by kernel_rfl) (by kernel_rfl) (PI2.out _)) ?_
        refine hgt 12 49 kFA (97, .tmp 48, 0) (.pointer (some ⟨g, kk * 2, none⟩)) (by kernel_rfl) (by kernel_rfl) (by kernel_rfl) (by kernel_rfl) (by exact fun _ _ _ h => h) (by kernel_rfl) (by kernel_rfl) hS0 (fun o w' ho hs => ex_fa ho (by kernel_rfl) (PF2.out _)) ?_
        refine hgt 13 50 kLoad (33, .tmp 49) (.slice fa x.b.length fc) (by kernel_rfl) (by kernel_rfl) (by kernel_rfl) (by kernel_rfl) (by exact fun _ _ _ h => h) (by kernel_rfl) (by kernel_rfl) hS0 (fun o w' ho hs => ex_load ho (by kernel_rfl) (PL2.out _ hs)) ?_
        refine hgt 15 52 kMove (.tmp 2) (.slice ay ys.length cy) (by kernel_rfl) (by kernel_rfl) (by kernel_rfl) (by kernel_rfl) (by exact fun _ _ _ h => h) (by kernel_rfl) (by kernel_rfl) hS0 (fun o w' ho hs => ex_move ho (by kernel_rfl)) ?_
        refine hg1 5 (by kernel_rfl) ?_
        have hS1 : Below w5.heap.size w5 (w5.drew.alloc (.cells #[] 5)) := hS0.alloc (Nat.le_refl _) _
        refine hg_val 42 kBS (33, 0, []) _ (by kernel_rfl) (fun o ho => ex_bs (vs := []) ho (by kernel_rfl) (FX.out _)) (.inr hS1) ?_
        refine hg1 14 (by kernel_rfl) ?_
        refine hg_app 51 (.tmp 42) (.tmp 50) 33 (.slice (some ⟨w5.drew.heap.size, 0, none⟩) 0 0) (.slice fa x.b.length fc) (by kernel_rfl) (by kernel_rfl) (by kernel_rfl) (fun ty => ?_)
        have hrow1 : Row (fun k => D k → F k) (w5.drew.alloc (.cells #[] 5)) (.slice fa x.b.length fc) x.b.length 1 (bcells x.b) := HAT.out.bs.row.fr (Fr.of_below hS1 : Fr (fun _ => False) w5 _) (fun _ _ h => h.elim)
        obtain ⟨v6, w6, hrun6, ho6, hf6, hm6⟩ := append_mine (ty := ty) (base := w5.heap.size) etB (own_empty _ _ _ _ _) hrow1 (bcells_one _) (by have := HXR.out; omega) (by simp)
        rw [Nat.zero_add, List.nil_append] at ho6
        obtain ⟨a6, c6, rfl, _⟩ := ho6.len
        have hS6 : Below w5.heap.size w5 w6 := Below.fr hS1 hf6 (fun i hi hm => by obtain ⟨off, m, c, hv, hc⟩ := hm; injection hv with _ _ e3; exact hc e3.symm)
        have hrun6' : (Builtin.append_ #[33, 33] ty #[.slice (some ⟨w5.drew.heap.size, 0, none⟩) 0 0, .slice fa x.b.length fc]).run Tryz.prog (w5.drew.alloc (.cells #[] 5)) = .ok (.slice a6 x.b.length c6) w6 := by simpa using hrun6
        refine ⟨_, _, hrun6', .inr hS6, ?_⟩
        refine hg1 16 (by kernel_rfl) ?_
        refine hg_app 53 (.tmp 51) (.tmp 52) 33 (.slice a6 x.b.length c6) (.slice ay ys.length cy) (by kernel_rfl) (by kernel_rfl) (by kernel_rfl) (fun ty => ?_)
        have hrow2 : Row (fun k => F k) w6 (.slice ay ys.length cy) ys.length 1 (bcells ys) := HV2.out.row.fr (Fr.of_below hS6 : Fr (fun _ => False) w5 _) (fun _ _ h => h.elim)
        obtain ⟨v7, w7, hrun7, ho7, hf7, hm7⟩ := append_mine (ty := ty) (base := w5.heap.size) etB ho6 hrow2 (bcells_one _) (by have := HXR.out; omega) hS6.size
        obtain ⟨a7, c7, rfl, _⟩ := ho7.len
        have hS7 : Below w5.heap.size w5 w7 := Below.fr hS6 hf7 (fun i hi hm => by have := (Own.mine_ge ho6 hm).1; omega)
        refine ⟨_, _, hrun7, .inr hS7, ?_⟩
        have PST := hid (show (Instr.storeAt 33 (.pointer (some ⟨g, kk * 2, none⟩)) (.slice a7 (x.b.length + ys.length) c7)).run Tryz.prog w7 = .ok () (w7.setCell ⟨g, kk * 2, none⟩ (.slice a7 (x.b.length + ys.length) c7)) from by
          have hc : w7.cell? ⟨g, kk * 2, none⟩ = some (.slice fa x.b.length fc) := ((Fr.of_below hS7 : Fr (fun _ => False) w5 w7).cell (p := ⟨g, kk * 2, none⟩) (lt_of_heap HG.out) id).trans HAT.out.q0
          have hz := frozen_of ((Fr.of_below hS7 : Fr (fun _ => False) w5 w7).heap HG.out id) (kk * 2)
          go_simp)
        refine hg1 17 (by kernel_rfl) ?_
        refine hg_val 54 kIA (38, .tmp 40, .tmp 41) (.pointer (some ⟨g, kk * 2, none⟩)) (by kernel_rfl) (fun o ho => ex_ia ho (by kernel_rfl) (by kernel_rfl) (PI2.out _)) (.inr hS7) ?_
        refine hg1 18 (by kernel_rfl) ?_
        refine hg_val 55 kFA (97, .tmp 54, 0) (.pointer (some ⟨g, kk * 2, none⟩)) (by kernel_rfl) (fun o ho => ex_fa ho (by kernel_rfl) (PF2.out _)) (.inr hS7) ?_
        refine hg1 19 (by kernel_rfl) ?_
        refine hg_store 33 (.tmp 55) (.tmp 53) (.pointer (some ⟨g, kk * 2, none⟩)) (.slice a7 (x.b.length + ys.length) c7) (by kernel_rfl) (by kernel_rfl) (by kernel_rfl) PST.out (.inl rfl) ?_
        refine hg_done (by kernel_rfl) ?_
        have hxo := HR1.out.ok.fil x (List.mem_of_getElem? HX.out)
        have hat7 := (HAT.out.grow (D' := fun k => D k ∨ (w5.heap.size ≤ k ∧ k < w7.heap.size)) (fun _ h => .inl h)).below hS7
        have hb7 : Bs (fun k => (D k ∨ (w5.heap.size ≤ k ∧ k < w7.heap.size)) → F k) w7 (.slice a7 (x.b.length + ys.length) c7) (x.b ++ ys) := by
          rw [bcells_append] at ho7
          exact Bs.of_row (ho7.row (fun k h1 h2 hS => by have := HR1.out.ltF (hS (.inr ⟨h1, h2⟩)); omega))
        have hxl : (x.b ++ ys).length = x.b.length + ys.length := List.length_append
        obtain ⟨h1, h2⟩ := hat7.shut HR1.out.ok (v' := .slice a7 (x.b.length + ys.length) c7) (y := ⟨x.b ++ ys, x.safe⟩) hb7 ⟨hxo.1, by show x.safe ≤ (((x.b ++ ys).length : Nat) : Int); rw [hxl]; have := hxo.2.1; omega, by show (x.b ++ ys).length ≤ 99000; rw [hxl]; have := HXR.out; omega⟩ (j := 0) (by decide) (u := .slice a7 (x.b.length + ys.length) c7) rfl (fun k hk => hk.elim (fun h => Nat.lt_of_lt_of_le (HR1.out.lt k h) hS7.size) (fun h => h.2))
        have H1 := hid h1
        have H2 := hid (((Fr.of_below hS7 : Fr (fun _ => False) w5 w7).mono (S' := F) (fun _ _ h => h.elim)).trans h2)
        have HSF := hid ((HF1.out.size))
        clear h1 h2 hS0 hS1 hS6 hS7 hxo hat7 hb7 hxl PST hrun6 hrun6' hrun7 ho6 ho7 hf6 hf7 hm6 hm7 hrow1 hrow2 FX PL2 PI2 PF2 FA1 FL1
        go_wp2
        go_ret
        have hsb := HBU.out.size
        exact ⟨rfl, F, _, H1.out, ((Turn.of_below HBU.out : Turn F D F D w1 wu).trans (HR1.out.stepped HF1.out)).fr.trans H2.out, fun _ h => .inl h, fun k h => h.imp id (fun h => by have := HSF.out; have := h.1; omega)⟩
      · have t1 : (f1 != 0) = true := by simpa using hf1
        rw [if_neg hf1]
        clear g1 g2 g3 g4 g5 hkk hx hxr hss hsp
        go_enter Tryz.func19, Tryz.ntmps19
        go_wp2_with fail
        refine HT.out.mono ?_
        rintro e w1 ⟨rfl, rfl⟩
        go_wp2_with fail
        have e_used : ∀ args w, (callFunc 45 args).run Tryz.prog w = .ok (.enter 45 args) w := enters_of Tryz.func45 rfl rfl
        have hS0 : Below w1.heap.size w1 w1.drew := (Below.refl _ w1).drew
        refine hg_start (fun W => Below w1.heap.size w1 W) 99 mixed ?_
        refine hgt 0 16 kMove (.tmp 2) (.slice ay ys.length cy) (by kernel_rfl) (by kernel_rfl) (by kernel_rfl) (by kernel_rfl) (by exact fun _ _ _ h => h) (by kernel_rfl) (by kernel_rfl) hS0 (fun o w' ho hs => ex_move ho (by kernel_rfl)) ?_
        refine hgt 1 17 kBi (.len, [.tmp 16], [33]) (.int .i64 (ys.length : Int)) (by kernel_rfl) (by kernel_rfl) (by kernel_rfl) (by kernel_rfl) (by exact fun _ _ _ h => h) (by kernel_rfl) (by kernel_rfl) hS0 (fun o w' ho hs => ex_bi (vs := [.slice ay ys.length cy]) ho (by kernel_rfl) (fun ty cs => PLY.out ty cs _)) ?_
        refine hgt 2 18 kMove (.tmp 0) (.pointer (some ⟨rb, 0, none⟩)) (by kernel_rfl) (by kernel_rfl) (by kernel_rfl) (by kernel_rfl) (by exact fun _ _ _ h => h) (by kernel_rfl) (by kernel_rfl) hS0 (fun o w' ho hs => ex_move ho (by kernel_rfl)) ?_
        refine hgt 3 19 kNil (.tmp 18) (.pointer (some ⟨rb, 0, none⟩)) (by kernel_rfl) (by kernel_rfl) (by kernel_rfl) (by kernel_rfl) (by exact fun _ _ _ h => h) (by kernel_rfl) (by kernel_rfl) hS0 (fun o w' ho hs => ex_nil ho (by kernel_rfl)) ?_
        refine hgt 4 20 kFA (42, .tmp 19, 0) (.pointer (some ⟨rb, 0, none⟩)) (by kernel_rfl) (by kernel_rfl) (by kernel_rfl) (by kernel_rfl) (by exact fun _ _ _ h => h) (by kernel_rfl) (by kernel_rfl) hS0 (fun o w' ho hs => ex_fa ho (by kernel_rfl) (FA0.out _)) ?_
        refine hgt 5 21 kLoad (3, .tmp 20) (.int .i64 st.room) (by kernel_rfl) (by kernel_rfl) (by kernel_rfl) (by kernel_rfl) (by exact fun _ _ _ h => h) (by kernel_rfl) (by kernel_rfl) hS0 (fun o w' ho hs => ex_load ho (by kernel_rfl) (FL0.out _ hs)) ?_
        refine hgt 6 22 kMove (.tmp 0) (.pointer (some ⟨rb, 0, none⟩)) (by kernel_rfl) (by kernel_rfl) (by kernel_rfl) (by kernel_rfl) (by exact fun _ _ _ h => h) (by kernel_rfl) (by kernel_rfl) hS0 (fun o w' ho hs => ex_move ho (by kernel_rfl)) ?_
        refine hg1 7 (by kernel_rfl) ?_
        refine hg_call 23 45 [.tmp 22] [.pointer (some ⟨rb, 0, none⟩)] (by kernel_rfl) (by kernel_rfl) e_used HU.out ?_
        rintro e wu ⟨rfl, hbu⟩
        have hS1 : Below w1.heap.size w1 wu := Below.below hS0 hbu
        refine ⟨_, rfl, .inr hS1, ?_⟩
        refine hg1 8 (by kernel_rfl) ?_
        refine hg_val 24 kBin (.sub, 3, .tmp 21, .tmp 23) (.int .i64 (st.room - (rused st : Int))) (by kernel_rfl) (fun o ho => ex_bin (vx := .int .i64 st.room) (vy := .int .i64 (rused st : Int)) ho (by kernel_rfl) (by kernel_rfl) rfl (PSB.out _)) (.inr hS1) ?_
        refine hg1 9 (by kernel_rfl) ?_
        refine hg_val 25 kBin (.gtr, 3, .tmp 17, .tmp 24) (.bool false) (by kernel_rfl) (fun o ho => ex_bin (vx := .int .i64 (ys.length : Int)) (vy := .int .i64 (st.room - (rused st : Int))) ho (by kernel_rfl) (by kernel_rfl) rfl (PGT.out _)) (.inr hS1) ?_
        refine hg_done (by kernel_rfl) ?_
        have HBU := hid hS1
        clear hS0 hS1 hbu PLY FA0 FL0 HU PSB PGT
        refine (‹∀ (a : Act) (w : World), Code.wp Tryz.prog (Code.cond (.tmp 25) _ _) _ a w → _› _ _ ?_)
        refine wp_cond_false (by kernel_rfl) ?_
        go_wp2_with fail
        refine (HST.out _ (HR.out.below HBU.out)).mono ?_
        rintro e w2 ⟨rfl, hr1, hfr1, hs1⟩
        have HR1 := hid hr1
        have HF1 := hid hfr1
        clear hr1 hfr1 hs1
        go_wp2
        go_ret
        exact ⟨rfl, F, D, HR1.out, (Turn.of_below HBU.out).trans (HR1.out.stepped HF1.out)⟩
  · have t1 : (A != 0) = true := by simpa using hA
    rw [if_pos hA]
    clear g1 g2 g3 g4 g5
    go_enter Tryz.func19, Tryz.ntmps19
    go_wp2_with (go_at_call 61; refine HT.out.mono ?_; rintro e w1 ⟨rfl, rfl⟩)
    go_ret
    exact ⟨rfl, F, D, HR.out, Turn.refl _ _ _⟩
end Go.Proofs.YtgehalfnpbjjcaaGreat
