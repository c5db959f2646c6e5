/- hayloftref06: Up. -/
import Derived.Test.YtgehalfnpbjjcaaGreatRefJ
import Derived.Laws.MakeOwn
namespace Go.Proofs.YtgehalfnpbjjcaaGreat
open Go Go.RowKit Go.Sort
def rcutN (cuts : List Int) (i : Nat) (x : RFil) : Int := x.safe + (match cuts[i]? with | some c => min (max c 0) ((x.b.length : Int) - x.safe) | none => 0)
def rcutF (cuts : List Int) (i : Nat) (x : RFil) : RFil := ⟨x.b.take (rcutN cuts i x).toNat, rcutN cuts i x⟩
def rupGo (cuts : List Int) : RDir → Nat → List Int → List RFil → List RFil
  | [], _, _, fs => fs
  | p :: l, i, done, fs => if p.2 ∈ done then rupGo cuts l (i + 1) done fs else rupGo cuts l (i + 1) (p.2 :: done) (rset fs p.2 (rcutF cuts i))
def rupN (st : RSt) (n : Int) : Nat := (min (max n 0) (st.chg.length : Int)).toNat
def rsafeF (st : RSt) (i : Nat) : RDir := (st.chg.take i).foldl rapply st.safe
def rup (st : RSt) (n : Int) (cuts : List Int) : RSt := { st with files := rupGo cuts (rsafeF st (rupN st n)) 0 [] st.files, seen := rsafeF st (rupN st n), safe := rsafeF st (rupN st n), chg := [], armed := -1, down := false }
theorem run_make_bools (W : World) (m : Nat) (hm : m ≤ 1000000) : (Instr.makeSlice 103 (.int .i64 (m : Int)) (.int .i64 (m : Int))).run Tryz.prog W = .ok (.slice (some ⟨W.heap.size, 0, none⟩) m m) (W.alloc (.cells (madeCells #[.bool false] m) 4)) := by
  obtain ⟨i, hi, hz, hsz, hby⟩ : ∃ i, Tryz.prog.info? 4 = some i ∧ i.zero = some (.bool false) ∧ i.size = 1 ∧ i.bytes = 1 := by
    have h : (Tryz.prog.info? 4).map (fun i => (i.zero, i.size, i.bytes)) = some (some (.bool false), 1, 1) := by kernel_rfl
    exact info_parts h
  have h := run_makeSlice (P := Tryz.prog) (w := W) 103 4 i (.bool false) Tryz.underlying103 hi hz .i64 .i64 (m : Int) (m : Int) (by omega) (Int.le_refl _) (by rw [hsz]; omega) (by rw [hby]; omega) (by omega)
  rw [hsz, show (Value.bool false).cells = #[Value.bool false] from rfl] at h
  simpa using h
theorem rupGo_in {cuts : List Int} {l : RDir} {i : Nat} {p : ByteArray × Int} {done : List Int} {fl : List RFil} (h : l[i]? = some p) (hp : p.2 ∈ done) : rupGo cuts (l.drop i) i done fl = rupGo cuts (l.drop (i + 1)) (i + 1) done fl := by
  rw [drop_at h]
  show (if p.2 ∈ done then _ else _) = _
  rw [if_pos hp]
theorem rupGo_new {cuts : List Int} {l : RDir} {i : Nat} {p : ByteArray × Int} {done : List Int} {fl : List RFil} (h : l[i]? = some p) (hp : p.2 ∉ done) : rupGo cuts (l.drop i) i done fl = rupGo cuts (l.drop (i + 1)) (i + 1) (p.2 :: done) (rset fl p.2 (rcutF cuts i)) := by
  rw [drop_at h]
  show (if p.2 ∈ done then _ else _) = _
  rw [if_neg hp]
theorem rcut_step {fl : List RFil} {kk : Nat} {x : RFil} {cuts : List Int} {i n : Nat} (hx : fl[kk]? = some x) (hn : rcutN cuts i x = (n : Int)) : rset fl (kk : Int) (rcutF cuts i) = fl.set kk ⟨x.b.take n, n⟩ := by
  unfold rset rcutF
  rw [Int.toNat_natCast, modify_set hx, hn, Int.toNat_natCast]
/-- Which files are done. -/
def DoneR (w : World) (gd m : Nat) (done : List Int) : Prop := ∃ dc : Array Value, w.heap[gd]? = some (.cells dc 4 (0, 0)) ∧ dc.size = m ∧ ∀ k, k < m → dc[k]? = some (.bool (decide ((k : Int) ∈ done)))
theorem DoneR.made (w : World) (m : Nat) : DoneR (w.alloc (.cells (madeCells #[.bool false] m) 4)) w.heap.size m [] := ⟨_, heap_alloc_new w _, size_madeCells _ _, fun k hk => by simp [madeCells, hk, Nat.mod_one]⟩
theorem DoneR.fr {w w' : World} {gd m : Nat} {done : List Int} (h : DoneR w gd m done) {S : Nat → Prop} (hf : Fr S w w') (hs : ¬ S gd) : DoneR w' gd m done := by
  obtain ⟨dc, h1, h2⟩ := h
  exact ⟨dc, hf.heap h1 hs, h2⟩
theorem DoneR.put {w : World} {gd m : Nat} {done : List Int} (h : DoneR w gd m done) {k : Nat} (hk : k < m) : DoneR (w.setCell ⟨gd, k, none⟩ (.bool true)) gd m ((k : Int) :: done) := by
  obtain ⟨dc, h1, h2, h3⟩ := h
  refine ⟨_, heap_store h1 k (.bool true), by simpa using h2, fun j hj => ?_⟩
  rw [Array.getElem?_setIfInBounds]
  by_cases e : k = j
  · subst e
    rw [if_pos rfl, if_pos (by omega)]
    simp
  · rw [if_neg e, h3 j hj]
    have : ¬ ((j : Int) = (k : Int)) := by omega
    simp [this]
theorem RAt.fr {w w' : World} {F D : Nat → Prop} {rb : Nat} {st : RSt} {kk : Nat} {x : RFil} {fs : List (Value × RFil)} {g cf : Nat} {fa : Option Addr} {fc : Nat} {a0 : Option Addr} {c0 : Nat} {va vc : Value} (h : RAt w F D rb st kk x fs g cf fa fc a0 c0 va vc) {S : Nat → Prop} (hf : Fr S w w') (hs : ∀ k, D k → ¬ S k) : RAt w' F D rb st kk x fs g cf fa fc a0 c0 va vc := by
  obtain ⟨cur, hg⟩ := h.blk
  have hgl := lt_of_heap hg
  have hgs : ¬ S g := hs g (h.body.sub g h.fg)
  exact ⟨h.fil, h.body.fr hf hs, hf.heap h.head (hs rb (h.body.sub rb h.body.self)), h.at_, ⟨cur, hf.heap hg hgs⟩, h.le1, h.le2, (hf.cell (p := ⟨g, kk * 2, none⟩) hgl hgs).trans h.q0, (hf.cell (p := ⟨g, kk * 2 + 1, none⟩) hgl hgs).trans h.q1, h.bs.dep hf (fun k hk _ => hs k hk), h.fit, h.ne, h.fg⟩
theorem Bs.headOf {S : Nat → Prop} {w : World} {a : Option Addr} {c : Nat} {xs : List UInt8} (h : Bs S w (.slice a xs.length c) xs) (k : Nat) (hk : k ≤ xs.length) : Bs S w (.slice a k c) (xs.take k) := by
  obtain ⟨a', c', h1, h2, h3', h4⟩ := h
  injection h1 with e1 _ e3
  subst e1 e3
  have hl : (xs.take k).length = k := by simp; omega
  refine ⟨a, c, by rw [hl], ⟨by have := h2.1; omega, by have := h2.2.1; omega, h2.2.2⟩, h3', ?_⟩
  rcases h4 with h4 | ⟨b, off, e1, e2, e3, e4⟩
  · subst h4; exact .inl (by simp)
  · refine .inr ⟨b, off, e1, e2, e3, fun i x hx => e4 i x ?_⟩
    have hi : i < k := by have := (List.getElem?_eq_some_iff.1 hx).1; omega
    rwa [List.getElem?_take_of_lt hi] at hx
/-- A file is cut, and all of it is safe. -/
theorem RAt.cutAt {w : World} {F D : Nat → Prop} {rb : Nat} {st : RSt} {kk : Nat} {x : RFil} {fs : List (Value × RFil)} {g cf : Nat} {fa : Option Addr} {fc : Nat} {a0 : Option Addr} {c0 : Nat} {va vc : Value} (h : RAt w F D rb st kk x fs g cf fa fc a0 c0 va vc) (hok : st.Ok) {n : Nat} (hn : n ≤ x.b.length) (hx : x.b.length ≤ 99000) (hlt : ∀ k, D k → k < w.heap.size) :
    RSr ((w.setCell ⟨g, kk * 2, none⟩ (.slice fa n fc)).setCell ⟨g, kk * 2 + 1, none⟩ (.int .i64 (n : Int))) F D rb { st with files := st.files.set kk ⟨x.b.take n, n⟩ } ∧ Fr F w ((w.setCell ⟨g, kk * 2, none⟩ (.slice fa n fc)).setCell ⟨g, kk * 2 + 1, none⟩ (.int .i64 (n : Int))) := by
  obtain ⟨h1, h2⟩ := h.body.storeFil h.at_ (.slice fa n fc, ⟨x.b.take n, x.safe⟩) (Bs.headOf h.bs n hn) (j := 0) (by decide) (u := .slice fa n fc) rfl
  have hk := (List.getElem?_eq_some_iff.1 h.at_).1
  have hl : (fs.set kk (.slice fa n fc, ⟨x.b.take n, x.safe⟩)).length = fs.length := by simp
  have hp2 : (fs.set kk (.slice fa n fc, ⟨x.b.take n, x.safe⟩))[kk]? = some (.slice fa n fc, ⟨x.b.take n, x.safe⟩) := by rw [List.getElem?_set_self hk]
  have hbt := h1.each _ (List.mem_of_getElem? hp2)
  obtain ⟨k1, k2⟩ := h1.storeFil hp2 (.slice fa n fc, ⟨x.b.take n, n⟩) hbt (j := 1) (by decide) (u := .int .i64 (n : Int)) rfl
  rw [List.set_set] at k1
  have hl2 : (fs.set kk (.slice fa n fc, ⟨x.b.take n, (n : Int)⟩)).length = fs.length := by simp
  rw [hl2] at k1
  have hff := h2.trans k2
  have hy : (0 : Int) ≤ (n : Int) ∧ (n : Int) ≤ (x.b.take n).length ∧ (x.b.take n).length ≤ 99000 := by rw [List.length_take]; omega
  refine ⟨⟨hok.set hy, ⟨fs.set kk (.slice fa n fc, ⟨x.b.take n, n⟩), _, _, _, _, ?_, k1, ?_⟩, fun k hk => Nat.lt_of_lt_of_le (hlt k hk) hff.size⟩, hff.mono (fun k _ e => e ▸ h.fg)⟩
  · rw [List.map_set, h.fil]
  · exact (hff.heap h.head (fun e => h.ne e.symm)).trans rfl
theorem rsafe_next {st : RSt} {i : Nat} {c : RChg} (h : st.chg[i]? = some c) : rsafeF st (i + 1) = rapply (rsafeF st i) c := by
  unfold rsafeF
  rw [List.take_add_one, h, Option.toList_some, List.foldl_append]
  rfl
theorem rsafe_ok {st : RSt} (h : st.Ok) : ∀ i, ∀ p ∈ rsafeF st i, 0 ≤ p.2 ∧ p.2 < st.files.length ∧ p.1.size ≤ 1000000
  | 0, p, hp => h.safeI p hp
  | i + 1, p, hp => by
    cases hc : st.chg[i]? with
    | none =>
      have e : st.chg.take (i + 1) = st.chg.take i := by rw [List.take_add_one, hc]; simp
      unfold rsafeF at hp
      rw [e] at hp
      exact rsafe_ok h i p hp
    | some c =>
      rw [rsafe_next hc] at hp
      have hcI := h.chgI c (List.mem_of_getElem? hc)
      rcases mem_rapply hp with hp | ⟨h1, h2, h3⟩
      · exact rsafe_ok h i p hp
      · have := hcI.2.2 h1
        refine ⟨by omega, by omega, ?_⟩
        rcases h3 with h3 | h3 <;> rw [h3]
        · exact hcI.1
        · exact hcI.2.1
theorem rapply_lengthU (l : RDir) (c : RChg) : (rapply l c).length ≤ l.length + 2 := by
  unfold rapply
  split
  · have := rput_length l c.a c.which; omega
  · split
    · have := rput_length l c.a (-1); omega
    · have h1 := rput_length l c.a (-1)
      have h2 := rput_length (rput l c.a (-1)) c.b c.which
      omega
theorem rsafe_len (st : RSt) : ∀ i, (rsafeF st i).length ≤ st.safe.length + 2 * i
  | 0 => by unfold rsafeF; simp
  | i + 1 => by
    have ih := rsafe_len st i
    cases hc : st.chg[i]? with
    | none =>
      have e : st.chg.take (i + 1) = st.chg.take i := by rw [List.take_add_one, hc]; simp
      unfold rsafeF
      rw [e]
      unfold rsafeF at ih
      omega
    | some c =>
      rw [rsafe_next hc]
      have := rapply_lengthU (rsafeF st i) c
      omega
theorem RSt.Ok.safeAt {st : RSt} (h : st.Ok) (i : Nat) : ({ st with safe := rsafeF st i } : RSt).Ok := ⟨h.room0, h.room1, h.seenI, rsafe_ok h i, h.chgI, h.fil⟩
set_option maxHeartbeats 2000000 in
set_option maxRecDepth 100000 in
theorem r06Up_ok {F D : Nat → Prop} {rb : Nat} {st : RSt} (w : World) (h : RSr w F D rb st) (hlc : st.chg.length ≤ 100000) (hls : st.safe.length ≤ 100000) (hlf : st.files.length ≤ 900000) (n : Int) (ka : Option Addr) (kc : Nat) (cuts : List Int) (hk : Row F w (.slice ka cuts.length kc) cuts.length 1 (cuts.map (Value.int .i64))) :
    Calls Tryz.prog 31 #[.pointer (some ⟨rb, 0, none⟩), .int .i64 n, .slice ka cuts.length kc] w fun e w' => e = .returned (.tuple #[]) ∧ ∃ F' D', RSr w' F' D' rb (rup st n cuts) ∧ Turn F D F' D' w w' := by
  have mixed : Tryz.prog.follows .mixedOrders = true := by kernel_rfl
  have HR := hid h
  have HK := hid hk
  have HOK := hid h.ok
  have hun : (rupN st n : Int) = min (max n 0) (st.chg.length : Int) := by unfold rupN; omega
  have HUN := hid hun
  have HZ := hid (show rupN st n ≤ st.chg.length from by omega)
  clear h hk hun
  go_enter Tryz.func31, Tryz.ntmps31
  go_wp2
  go_loopg [6] (rupN st n) (fun kx s6 wr => ∃ i : Nat, s6 = .int .i64 i ∧ i ≤ rupN st n ∧ rupN st n - i ≤ kx ∧ Hid (∃ F' D', RSr wr F' D' rb { st with safe := rsafeF st i } ∧ Turn F D F' D' w wr))
  case atStart => exact ⟨0, rfl, Nat.zero_le _, Nat.le_refl _, hid ⟨F, D, HR.out, Turn.refl _ _ _⟩⟩
  case round =>
    obtain ⟨i, rfl, hi, hk, HI⟩ := hrel
    obtain ⟨F1, D1, hr1, ht1⟩ := HI.out
    have HR1 := hid hr1
    have HT1 := hid ht1
    obtain ⟨fs, vf, vs, va, vc, he, hb, hh⟩ := hr1.lies
    obtain ⟨_, aa, ca, rfl, _⟩ := id hb.safe
    obtain ⟨ac, cc, rfl, _⟩ := hb.chg.len
    have hz := HZ.out
    have hu := HUN.out
    have k4 : wr.cell? ⟨rb, 4, none⟩ = some (.slice ac st.chg.length cc) := cell_of_heap hh 4
    by_cases hlt : i < rupN st n
    · have hc1 : (i : Int) < (st.chg.length : Int) := by omega
      have hc2 : (i : Int) < n := by omega
      obtain ⟨c, hc⟩ : ∃ c, st.chg[i]? = some c := ⟨_, List.getElem?_eq_getElem (by omega)⟩
      obtain ⟨cb, co, rfl, hcb, _, e1, e2, hcell⟩ := (hb.chg.row (S := fun _ => False) (fun _ _ _ => id)).elem rchgC_len (by decide) hc
      obtain ⟨si, hsi⟩ : ∃ si, rsafeF st i = si := ⟨_, rfl⟩
      have hsl := rsafe_len st i
      have hsok := rsafe_ok HOK.out i
      have hnx := rsafe_next hc
      have hcI := HOK.out.chgI c (List.mem_of_getElem? hc)
      have hokn := HOK.out.safeAt (i + 1)
      rw [hsi] at hsl hsok hnx
      simp only [hsi] at hb hh
      have HB := hid hb
      have HH := hid hh
      have HE := hid he
      have HNX := hid hnx
      have HOKN := hid hokn
      have FA3 := hid (show ∀ W, (Instr.fieldAt 42 (.pointer (some ⟨rb, 0, none⟩)) 3).run Tryz.prog W = .ok (.pointer (some ⟨rb, 3, none⟩)) W from fun W => by go_simp)
      have FA4 := hid (show ∀ W, (Instr.fieldAt 42 (.pointer (some ⟨rb, 0, none⟩)) 4).run Tryz.prog W = .ok (.pointer (some ⟨rb, 4, none⟩)) W from fun W => by go_simp)
      have FL3 := hid (show ∀ W, Below wr.heap.size wr W → (Instr.loadAt 39 (.pointer (some ⟨rb, 3, none⟩))).run Tryz.prog W = .ok (.slice aa si.length ca) W from fun W hW => ldd W (cell_of_heap ((Fr.of_below hW : Fr (fun _ => False) wr W).heap HH.out id) 3))
      have FL4 := hid (show ∀ W, Below wr.heap.size wr W → (Instr.loadAt 40 (.pointer (some ⟨rb, 4, none⟩))).run Tryz.prog W = .ok (.slice (some ⟨cb, co, none⟩) st.chg.length cc) W from fun W hW => by
        have hc : W.cell? ⟨rb, 4, none⟩ = some (.slice (some ⟨cb, co, none⟩) st.chg.length cc) := cell_of_heap ((Fr.of_below hW : Fr (fun _ => False) wr W).heap HH.out id) 4
        clear hh
        go_simp)
      have PIA := hid (show ∀ W, (Instr.indexAt 40 (.slice (some ⟨cb, co, none⟩) st.chg.length cc) (.int .i64 (i : Int))).run Tryz.prog W = .ok (.pointer (some ⟨cb, co + i * 4, none⟩)) W from fun W => by go_simp)
      have j0 : wr.cell? ⟨cb, co + i * 4, none⟩ = some (.int .i64 c.kind) := hcell 0 _ rfl
      have j1 : wr.cell? ⟨cb, co + i * 4 + 1, none⟩ = some (.string c.a) := hcell 1 _ rfl
      have j2 : wr.cell? ⟨cb, co + i * 4 + 2, none⟩ = some (.string c.b) := hcell 2 _ rfl
      have j3 : wr.cell? ⟨cb, co + i * 4 + 3, none⟩ = some (.int .i64 c.which) := hcell 3 _ rfl
      have FLC := hid (show ∀ W, Below wr.heap.size wr W → (Instr.loadAt 100 (.pointer (some ⟨cb, co + i * 4, none⟩))).run Tryz.prog W = .ok (.agg (rchgC c).toArray) W from fun W hW => by
        have hf : Fr (fun _ => False) wr W := Fr.of_below hW
        have q0 := (hf.cell (p := ⟨cb, co + i * 4, none⟩) hcb id).trans j0
        have q1 := (hf.cell (p := ⟨cb, co + i * 4 + 1, none⟩) hcb id).trans j1
        have q2 := (hf.cell (p := ⟨cb, co + i * 4 + 2, none⟩) hcb id).trans j2
        have q3 := (hf.cell (p := ⟨cb, co + i * 4 + 3, none⟩) hcb id).trans j3
        show _ = Result.ok (Value.agg #[.int .i64 c.kind, .string c.a, .string c.b, .int .i64 c.which]) W
        clear j0 j1 j2 j3 hh hcell hf
        go_simp)
      have AP := hid (r06Apply_ok wr.drew (S := fun k => D1 k → F1 k) si (HB.out.safe.fr ((Fr.refl (fun _ => False) wr).drew) (fun _ _ h => h.elim)) c (by omega) (fun p hp => (hsok p hp).2.2) hcI.1)
      clear hr1 ht1 he hb hh hcell hc hsok hnx hcI hokn j0 j1 j2 j3
      go_wp2_with fail
      have hS0 : Below wr.heap.size wr wr.drew := (Below.refl _ _).drew
      refine hg_start (fun W => Below wr.heap.size wr W) 15 mixed ?_
      refine hgt 0 27 kMove (.tmp 0) (.pointer (some ⟨rb, 0, none⟩)) (by kernel_rfl) (by kernel_rfl) (by kernel_rfl) (by kernel_rfl) (by exact fun _ _ _ h => h) (by kernel_rfl) (by kernel_rfl) hS0 (fun o w' ho hs => ex_move ho (by kernel_rfl)) ?_
      refine hgt 1 28 kMove (.tmp 0) (.pointer (some ⟨rb, 0, none⟩)) (by kernel_rfl) (by kernel_rfl) (by kernel_rfl) (by kernel_rfl) (by exact fun _ _ _ h => h) (by kernel_rfl) (by kernel_rfl) hS0 (fun o w' ho hs => ex_move ho (by kernel_rfl)) ?_
      refine hgt 2 29 kNil (.tmp 28) (.pointer (some ⟨rb, 0, none⟩)) (by kernel_rfl) (by kernel_rfl) (by kernel_rfl) (by kernel_rfl) (by exact fun _ _ _ h => h) (by kernel_rfl) (by kernel_rfl) hS0 (fun o w' ho hs => ex_nil ho (by kernel_rfl)) ?_
      refine hgt 3 30 kFA (42, .tmp 29, 3) (.pointer (some ⟨rb, 3, none⟩)) (by kernel_rfl) (by kernel_rfl) (by kernel_rfl) (by kernel_rfl) (by exact fun _ _ _ h => h) (by kernel_rfl) (by kernel_rfl) hS0 (fun o w' ho hs => ex_fa ho (by kernel_rfl) (FA3.out _)) ?_
      refine hgt 4 31 kLoad (39, .tmp 30) (.slice aa si.length ca) (by kernel_rfl) (by kernel_rfl) (by kernel_rfl) (by kernel_rfl) (by exact fun _ _ _ h => h) (by kernel_rfl) (by kernel_rfl) hS0 (fun o w' ho hs => ex_load ho (by kernel_rfl) (FL3.out _ hs)) ?_
      refine hgt 5 32 kMove (.tmp 0) (.pointer (some ⟨rb, 0, none⟩)) (by kernel_rfl) (by kernel_rfl) (by kernel_rfl) (by kernel_rfl) (by exact fun _ _ _ h => h) (by kernel_rfl) (by kernel_rfl) hS0 (fun o w' ho hs => ex_move ho (by kernel_rfl)) ?_
      refine hgt 6 33 kNil (.tmp 32) (.pointer (some ⟨rb, 0, none⟩)) (by kernel_rfl) (by kernel_rfl) (by kernel_rfl) (by kernel_rfl) (by exact fun _ _ _ h => h) (by kernel_rfl) (by kernel_rfl) hS0 (fun o w' ho hs => ex_nil ho (by kernel_rfl)) ?_
      refine hgt 7 34 kFA (42, .tmp 33, 4) (.pointer (some ⟨rb, 4, none⟩)) (by kernel_rfl) (by kernel_rfl) (by kernel_rfl) (by kernel_rfl) (by exact fun _ _ _ h => h) (by kernel_rfl) (by kernel_rfl) hS0 (fun o w' ho hs => ex_fa ho (by kernel_rfl) (FA4.out _)) ?_
      refine hgt 8 35 kLoad (40, .tmp 34) (.slice (some ⟨cb, co, none⟩) st.chg.length cc) (by kernel_rfl) (by kernel_rfl) (by kernel_rfl) (by kernel_rfl) (by exact fun _ _ _ h => h) (by kernel_rfl) (by kernel_rfl) hS0 (fun o w' ho hs => ex_load ho (by kernel_rfl) (FL4.out _ hs)) ?_
      refine hgt 9 36 kMove (.tmp 6) (.int .i64 (i : Int)) (by kernel_rfl) (by kernel_rfl) (by kernel_rfl) (by kernel_rfl) (by exact fun _ _ _ h => h) (by kernel_rfl) (by kernel_rfl) hS0 (fun o w' ho hs => ex_move ho (by kernel_rfl)) ?_
      refine hgt 10 37 kIA (40, .tmp 35, .tmp 36) (.pointer (some ⟨cb, co + i * 4, none⟩)) (by kernel_rfl) (by kernel_rfl) (by kernel_rfl) (by kernel_rfl) (by exact fun _ _ _ h => h) (by kernel_rfl) (by kernel_rfl) hS0 (fun o w' ho hs => ex_ia ho (by kernel_rfl) (by kernel_rfl) (PIA.out _)) ?_
      refine hgt 11 38 kLoad (100, .tmp 37) (.agg (rchgC c).toArray) (by kernel_rfl) (by kernel_rfl) (by kernel_rfl) (by kernel_rfl) (by exact fun _ _ _ h => h) (by kernel_rfl) (by kernel_rfl) hS0 (fun o w' ho hs => ex_load ho (by kernel_rfl) (FLC.out _ hs)) ?_
      refine hg1 12 (by kernel_rfl) ?_
      refine hg_call 39 65 [.tmp 31, .tmp 38] [.slice aa si.length ca, .agg (rchgC c).toArray] (by kernel_rfl) (by kernel_rfl) (enters_of Tryz.func65 rfl rfl) AP.out ?_
      rintro e w1 ⟨a1, c1, rfl, ho1, hb1⟩
      have hS1 : Below wr.heap.size wr w1 := Below.below hS0 hb1
      refine ⟨_, rfl, .inr hS1, ?_⟩
      have hh1 := (Fr.of_below hS1 : Fr (fun _ => False) wr w1).heap HH.out id
      obtain ⟨sn, hsn⟩ : ∃ sn, rapply si c = sn := ⟨_, rfl⟩
      rw [hsn] at ho1 ⊢
      have FS1 := hid (show (Instr.storeAt 39 (.pointer (some ⟨rb, 3, none⟩)) (.slice a1 sn.length c1)).run Tryz.prog w1 = .ok () (w1.setCell ⟨rb, 3, none⟩ (.slice a1 sn.length c1)) from by
        have hc : w1.cell? ⟨rb, 3, none⟩ = some (.slice aa si.length ca) := cell_of_heap hh1 3
        have hz := frozen_of hh1 3
        go_simp)
      refine hg1 13 (by kernel_rfl) ?_
      refine hg_val 40 kNil (.tmp 27) (.pointer (some ⟨rb, 0, none⟩)) (by kernel_rfl) (fun o ho => ex_nil ho (by kernel_rfl)) (.inr hS1) ?_
      refine hg1 14 (by kernel_rfl) ?_
      refine hg_val 41 kFA (42, .tmp 40, 3) (.pointer (some ⟨rb, 3, none⟩)) (by kernel_rfl) (fun o ho => ex_fa ho (by kernel_rfl) (FA3.out _)) (.inr hS1) ?_
      refine hg1 15 (by kernel_rfl) ?_
      have hb2 : Fr (· = rb) w1 (w1.setCell ⟨rb, 3, none⟩ (.slice a1 sn.length c1)) := frH w1 rb 3 _
      have hh2 := heap_store hh1 3 (.slice a1 sn.length c1)
      have hg := (HB.out.grow (F' := F1) (D' := fun k => D1 k ∨ wr.heap.size ≤ k) (fun _ h => h) (fun _ h => .inl h) (fun k h => .inl (HB.out.sub k h)) (fun _ _ h => h)).below hS1
      have hs2 : Row (fun k => (D1 k ∨ wr.heap.size ≤ k) → F1 k) w1 (.slice a1 sn.length c1) sn.length 2 (sn.flatMap rentC) := ho1.row (fun k hk _ hd => by
        have h1 : wr.heap.size ≤ k := hk
        have := HR1.out.ltF (hd (.inr h1))
        omega)
      have hokn2 := HOKN.out
      rw [HNX.out, hsn] at hokn2
      have hrn := RSb.shut (st := { st with safe := sn }) ((hg.setSafe hs2).turnH hb2 hh2) hokn2 HE.out (hh2.trans rfl)
      have htn : Turn F1 D1 (fun k => F1 k ∧ k < (w1.setCell ⟨rb, 3, none⟩ (.slice a1 sn.length c1)).heap.size) (fun k => (D1 k ∨ wr.heap.size ≤ k) ∧ k < (w1.setCell ⟨rb, 3, none⟩ (.slice a1 sn.length c1)).heap.size) wr (w1.setCell ⟨rb, 3, none⟩ (.slice a1 sn.length c1)) := ⟨((Fr.of_below hS1 : Fr (fun _ => False) wr w1).mono (S' := F1) (fun _ _ h => h.elim)).trans (hb2.mono (S' := F1) (fun k _ e => e ▸ HB.out.self)), fun k hk => .inl hk.1, fun k hk => hk.1⟩
      have HFIN := hid (show ∃ F' D', RSr (w1.setCell ⟨rb, 3, none⟩ (.slice a1 sn.length c1)) F' D' rb { st with safe := rsafeF st (i + 1) } ∧ Turn F D F' D' w (w1.setCell ⟨rb, 3, none⟩ (.slice a1 sn.length c1)) from ⟨_, _, by rw [HNX.out, hsn]; exact hrn, HT1.out.trans htn⟩)
      refine hg_store 39 (.tmp 41) (.tmp 39) (.pointer (some ⟨rb, 3, none⟩)) (.slice a1 sn.length c1) (by kernel_rfl) (by kernel_rfl) (by kernel_rfl) FS1.out (.inl rfl) ?_
      refine hg_done (by kernel_rfl) ?_
      clear ho1 hb1 hS0 hS1 hh1 FS1 hb2 hh2 hg hs2 hokn2 hrn htn FL3 FL4 FLC PIA AP FA3 FA4
      go_wp2_with fail
      go_roundg (rupN st n - (i + 1))
      case measure => exact meas_lt hk hlt
      case rel => exact ⟨i + 1, by go_num, hlt, Nat.le_refl _, HFIN⟩
    · obtain rfl : i = rupN st n := by omega
      have hfl : fs.length = st.files.length := by rw [← congrArg List.length he]; simp
      obtain ⟨sk, hsk⟩ : ∃ sk, rsafeF st (rupN st n) = sk := ⟨_, rfl⟩
      have hsl := rsafe_len st (rupN st n)
      have hsok := rsafe_ok HOK.out (rupN st n)
      rw [hsk] at hsl hsok
      simp only [hsk] at hb hh HR1
      obtain ⟨af, cf, rfl, _⟩ := hb.files.len
      have k1 : wr.cell? ⟨rb, 1, none⟩ = some (.slice af fs.length cf) := cell_of_heap hh 1
      have hmk : ∀ W, (Instr.makeSlice 103 (.int .i64 (fs.length : Int)) (.int .i64 (fs.length : Int))).run Tryz.prog W = .ok (.slice (some ⟨W.heap.size, 0, none⟩) fs.length fs.length) (W.alloc (.cells (madeCells #[.bool false] fs.length) 4)) := fun W => by
        have h9 := run_make_bools W fs.length (by omega)
        exact h9
      have HB := hid hb
      have HH := hid hh
      have HE := hid he
      have HFL := hid hfl
      have HSK := hid hsk
      have HSOK := hid hsok
      clear hr1 ht1 he hb hh hfl hsk hsok HI
      by_cases hc1 : (rupN st n : Int) < (st.chg.length : Int)
      · have hc2 : ¬ (rupN st n : Int) < n := by omega
        go_wp2
        obtain ⟨wA, hwA⟩ : ∃ wA, wr.alloc (.cells (madeCells #[.bool false] fs.length) 4) = wA := ⟨_, rfl⟩
        have hbA : Below wr.heap.size wr wA := by rw [← hwA]; exact (Below.refl _ _).alloc (Nat.le_refl _) _
        have HDA := hid (show DoneR wA wr.heap.size fs.length [] from by rw [← hwA]; exact DoneR.made wr fs.length)
        have HRA := hid (HR1.out.below hbA)
        have HBA := hid hbA
        have HLF := hid (fun k (hk : F1 k) => HR1.out.ltF hk)
        rw [hwA]
        clear hwA hbA
        obtain ⟨gd, hgd⟩ : ∃ gd, wr.heap.size = gd := ⟨_, rfl⟩
        rw [hgd] at HDA ⊢
        have HTA := hid (HT1.out.behind HBA.out)
        have HGD := hid (show (∀ k, D1 k → k < gd) ∧ w.heap.size ≤ gd ∧ gd < wA.heap.size from ⟨fun k hk => by rw [← hgd]; exact HR1.out.lt k hk, by rw [← hgd]; exact HT1.out.fr.size, by obtain ⟨dc, h1, _⟩ := HDA.out; exact lt_of_heap h1⟩)
        clear hgd
        go_loopg [8] sk.length (fun kx s8 wz => ∃ (i : Nat) (done : List Int) (fl : List RFil), s8 = .int .i64 i ∧ i ≤ sk.length ∧ sk.length - i ≤ kx ∧ Hid (rupGo cuts (sk.drop i) i done fl = rupGo cuts sk 0 [] st.files) ∧ Hid (fl.length = st.files.length) ∧ Hid (DoneR wz gd fs.length done) ∧ Hid (RSr wz F1 D1 rb { st with safe := sk, files := fl }) ∧ Hid (Fr (fun k => F1 k ∨ k = gd) wA wz))
        case atStart => exact ⟨0, [], st.files, rfl, Nat.zero_le _, Nat.le_refl _, hid rfl, hid rfl, HDA, HRA, hid (Fr.refl _ _)⟩
        case round =>
          obtain ⟨i, done, fl, rfl, hi, hk, HU, HFLL, HD, HRZ, HFZ⟩ := hrel
          have hrz := HRZ.out
          obtain ⟨fz, vf, vs, va, vc, hez, hbz, hhz⟩ := hrz.lies
          obtain ⟨_, az, cz, rfl, _⟩ := id hbz.safe
          have k3 : wr.cell? ⟨rb, 3, none⟩ = some (.slice az sk.length cz) := cell_of_heap hhz 3
          by_cases hlt : i < sk.length
          · have hlt' : (i : Int) < (sk.length : Int) := by omega
            obtain ⟨q, hq⟩ : ∃ q, sk[i]? = some q := ⟨_, List.getElem?_eq_getElem hlt⟩
            obtain ⟨eb, eo, rfl, heb, _, e1, e2, hecell⟩ := hbz.safe.elem rentC_len (by decide) hq
            have hqi := HSOK.out q (List.mem_of_getElem? hq)
            obtain ⟨kk, hkk⟩ : ∃ kk : Nat, q.2 = (kk : Int) := ⟨q.2.toNat, by omega⟩
            have j1 : wr.cell? ⟨eb, eo + i * 2 + 1, none⟩ = some (.int .i64 (kk : Int)) := by rw [← hkk]; exact hecell 1 _ rfl
            have hkm : kk < fs.length := by have := HFL.out; omega
            have hkm' : (kk : Int) < (fs.length : Int) := by omega
            obtain ⟨dc, hd1, hd2, hd3⟩ := HD.out
            have kd : wr.cell? ⟨gd, kk, none⟩ = some (.bool (decide ((kk : Int) ∈ done))) := (cell_of_heap hd1 kk).trans (hd3 kk hkm)
            have zd := frozen_of hd1 kk
            by_cases hin : (kk : Int) ∈ done
            · rw [decide_eq_true hin] at kd
              have hU2 := rupGo_in (cuts := cuts) (fl := fl) hq (by rw [hkk]; exact hin)
              have HU2 := hid (hU2.symm.trans HU.out)
              clear hU2 hrz hez hbz hhz hq hecell hqi hkk hd1 hd2 hd3 hin
              go_wp2_with fail
              go_roundg (sk.length - (i + 1))
              case measure => exact meas_lt hk hlt
              case rel => exact ⟨i + 1, done, fl, by go_num, hlt, Nat.le_refl _, HU2, HFLL, HD, HRZ, HFZ⟩
            · rw [decide_eq_false hin] at kd
              have hlf : fl.length = fs.length := by rw [HFLL.out, HFL.out]
              obtain ⟨x, hx⟩ : ∃ x, fl[kk]? = some x := ⟨_, List.getElem?_eq_getElem (by omega)⟩
              obtain ⟨fz2, g, cf2, fa, fc, a0, c0, va2, vc2, hat⟩ := hrz.openAt (kk := kk) (x := x) hx
              have hxo := hrz.ok.fil x (List.mem_of_getElem? hx)
              have hfzl : fz2.length = fs.length := by
                have h9 : fz2.length = fl.length := by rw [← congrArg List.length hat.fil]; simp
                omega
              have k1 : wr.cell? ⟨rb, 1, none⟩ = some (.slice (some ⟨g, 0, none⟩) fz2.length cf2) := cell_of_heap hat.head 1
              have kx0 := hat.q0
              have kx1 := hat.q1
              obtain ⟨curg, hg⟩ := hat.blk
              have zx0 := frozen_of hg (kk * 2)
              have zx1 := frozen_of hg (kk * 2 + 1)
              have hkz : (kk : Int) < (fz2.length : Int) := by omega
              have hle1 := hat.le1
              have ft1 := hat.fit.1
              have ft2 := hat.fit.2.1
              have hgl := lt_of_heap hg
              have hgdl := lt_of_heap hd1
              have hrl := lt_of_heap hat.head
              have ne1 : g ≠ gd := by have := HGD.out.1 g (hat.body.sub g hat.fg); omega
              have ne2 : gd ≠ g := fun e => ne1 e.symm
              have ne3 : rb ≠ gd := by have := HGD.out.1 rb (hat.body.sub rb hat.body.self); omega
              have ne4 : gd ≠ rb := fun e => ne3 e.symm
              have hxs : 0 ≤ x.safe := hxo.1
              have hxs2 : x.safe ≤ (x.b.length : Int) := hxo.2.1
              have hxs3 := hxo.2.2
              have HAT := hid hat
              have HGB := hid hg
              have HX := hid hx
              have hU2 := rupGo_new (cuts := cuts) (fl := fl) hq (by rw [hkk]; exact hin)
              have HU2 := hid (hU2.symm.trans HU.out)
              have HKK := hid hkk
              clear hU2 hrz hez hbz hhz hq hecell hqi hkk hd1 hd2 hd3 hat hg hx hin hlf hfzl
              by_cases hcu : i < cuts.length
              · have hcu' : (i : Int) < (cuts.length : Int) := by omega
                obtain ⟨cv, hcv⟩ : ∃ cv, cuts[i]? = some cv := ⟨_, List.getElem?_eq_getElem hcu⟩
                have hfw : Fr (fun k => F k ∨ w.heap.size ≤ k) w wr := (HTA.out.fr.mono (fun k _ h => .inl h)).trans (HFZ.out.mono (fun k _ h => h.elim (fun h => HTA.out.fF k h) (fun e => .inr (e ▸ HGD.out.2.1))))
                obtain ⟨kb, koff, rfl, hkc0, hkb0, hkF, hk1, hk2⟩ := (HK.out).cellAt (i := i) (x := .int .i64 cv) (by rw [List.getElem?_map, hcv]; rfl)
                have hkc : wr.cell? ⟨kb, koff + i, none⟩ = some (.int .i64 cv) := (hfw.cell (p := ⟨kb, koff + i, none⟩) hkb0 (fun e => e.elim (fun e => hkF e) (fun e => absurd hkb0 (by have e' : w.heap.size ≤ kb := e; omega)))).trans hkc0
                have hkb : kb < wr.heap.size := Nat.lt_of_lt_of_le hkb0 hfw.size
                have hkg : kb ≠ gd := by have := HGD.out.2.1; omega
                obtain ⟨dI, hdI⟩ : ∃ dI, min (max cv 0) ((x.b.length : Int) - x.safe) = dI := ⟨_, rfl⟩
                have hd0 : 0 ≤ dI := by omega
                have hd1 : x.safe + dI ≤ (x.b.length : Int) := by omega
                have HCN := hid (show rcutN cuts i x = x.safe + dI from by unfold rcutN; rw [hcv]; simp only; rw [hdI])
                clear hcv hfw hkc0
                go_wp2_with fail
                obtain ⟨z, hz⟩ : ∃ z, wr.heap.size = z := ⟨_, rfl⟩
                have hf0 : Fr (· = gd) wr ((wr.setCell ⟨gd, kk, none⟩ (.bool true)).alloc (.cells #[.slice fa x.b.length fc, .int .i64 x.safe] 97)).drew := (((Fr.refl (· = gd) wr).setCell (fun _ => rfl) _).trans (Fr.of_below ((Below.refl _ _).alloc (Nat.le_refl _) _))).drew
                obtain ⟨w5, hw5⟩ : ∃ w5, (wr.setCell ⟨gd, kk, none⟩ (.bool true)).alloc (.cells #[.slice fa x.b.length fc, .int .i64 x.safe] 97) = w5 := ⟨_, rfl⟩
                rw [hw5] at hf0
                have hv5 : w5.heap[z]? = some (.cells #[.slice fa x.b.length fc, .int .i64 x.safe] 97 (0, 0)) := by
                  rw [← hw5, ← hz]
                  have h9 := heap_alloc_new (wr.setCell ⟨gd, kk, none⟩ (.bool true)) (.cells #[.slice fa x.b.length fc, .int .i64 x.safe] 97)
                  rwa [show (wr.setCell ⟨gd, kk, none⟩ (.bool true)).heap.size = wr.heap.size from by simp] at h9
                have HV5 := hid hv5
                have hkc5 : w5.cell? ⟨kb, koff + i, none⟩ = some (.int .i64 cv) := (hf0.cell (p := ⟨kb, koff + i, none⟩) hkb (fun e => hkg e)).trans hkc
                have hkb5 : kb < w5.heap.size := Nat.lt_of_lt_of_le hkb hf0.size
                have PA0 := hid (show ∀ W, (Instr.fieldAt 97 (.pointer (some ⟨z, 0, none⟩)) 0).run Tryz.prog W = .ok (.pointer (some ⟨z, 0, none⟩)) W from fun W => by go_simp)
                have PA1 := hid (show ∀ W, (Instr.fieldAt 97 (.pointer (some ⟨z, 0, none⟩)) 1).run Tryz.prog W = .ok (.pointer (some ⟨z, 1, none⟩)) W from fun W => by go_simp)
                have PL0 := hid (show ∀ W, Fr (fun _ => False) w5 W → (Instr.loadAt 33 (.pointer (some ⟨z, 0, none⟩))).run Tryz.prog W = .ok (.slice fa x.b.length fc) W from fun W hW => ldb W (cell_of_heap (hW.heap HV5.out id) 0))
                have PL1 := hid (show ∀ W, Fr (fun _ => False) w5 W → (Instr.loadAt 3 (.pointer (some ⟨z, 1, none⟩))).run Tryz.prog W = .ok (.int .i64 x.safe) W from fun W hW => ldi W (cell_of_heap (hW.heap HV5.out id) 1))
                have PIA := hid (show ∀ W, (Instr.indexAt 34 (.slice (some ⟨kb, koff, none⟩) cuts.length kc) (.int .i64 (i : Int))).run Tryz.prog W = .ok (.pointer (some ⟨kb, koff + i, none⟩)) W from fun W => by go_simp)
                have PLC := hid (show ∀ W, Fr (fun _ => False) w5 W → (Instr.loadAt 3 (.pointer (some ⟨kb, koff + i, none⟩))).run Tryz.prog W = .ok (.int .i64 cv) W from fun W hW => ldi W ((hW.cell (p := ⟨kb, koff + i, none⟩) hkb5 id).trans hkc5))
                have PMX := hid (show ∀ ty cs W, (builtin .max #[3, 3] ty cs #[.int .i64 cv, .int .i64 0]).run Tryz.prog W = .ok (.value (.int .i64 (max cv 0))) W from fun ty cs W => by go_simp)
                have PLN := hid (show ∀ ty cs W, (builtin .len #[33] ty cs #[.slice fa x.b.length fc]).run Tryz.prog W = .ok (.value (.int .i64 (x.b.length : Int))) W from fun ty cs W => by go_simp)
                have PSB := hid (show ∀ W, (binOp .sub 3 (.int .i64 (x.b.length : Int)) (.int .i64 x.safe)).run Tryz.prog W = .ok (.int .i64 ((x.b.length : Int) - x.safe)) W from fun W => by go_simp; exact IntWalk.i64_in _ (by omega))
                have PMN := hid (show ∀ ty cs W, (builtin .min #[3, 3] ty cs #[.int .i64 (max cv 0), .int .i64 ((x.b.length : Int) - x.safe)]).run Tryz.prog W = .ok (.value (.int .i64 dI)) W from fun ty cs W => by rw [← hdI]; go_simp)
                have hS0 : Fr (fun _ => False) w5 w5.drew := (Fr.refl _ w5).drew
                rw [hw5, hz]
                refine hg_start (fun W => Fr (fun _ => False) w5 W) 99 mixed ?_
                refine hgt 0 83 kMove (.tmp 2) (.slice (some ⟨kb, koff, none⟩) cuts.length kc) (by kernel_rfl) (by kernel_rfl) (by kernel_rfl) (by kernel_rfl) (by exact fun _ _ _ h => h) (by kernel_rfl) (by kernel_rfl) hS0 (fun o w' ho hs => ex_move ho (by kernel_rfl)) ?_
                refine hgt 1 84 kMove (.tmp 8) (.int .i64 (i : Int)) (by kernel_rfl) (by kernel_rfl) (by kernel_rfl) (by kernel_rfl) (by exact fun _ _ _ h => h) (by kernel_rfl) (by kernel_rfl) hS0 (fun o w' ho hs => ex_move ho (by kernel_rfl)) ?_
                refine hgt 2 85 kIA (34, .tmp 83, .tmp 84) (.pointer (some ⟨kb, koff + i, none⟩)) (by kernel_rfl) (by kernel_rfl) (by kernel_rfl) (by kernel_rfl) (by exact fun _ _ _ h => h) (by kernel_rfl) (by kernel_rfl) hS0 (fun o w' ho hs => ex_ia ho (by kernel_rfl) (by kernel_rfl) (PIA.out _)) ?_
                refine hgt 3 86 kLoad (3, .tmp 85) (.int .i64 cv) (by kernel_rfl) (by kernel_rfl) (by kernel_rfl) (by kernel_rfl) (by exact fun _ _ _ h => h) (by kernel_rfl) (by kernel_rfl) hS0 (fun o w' ho hs => ex_load ho (by kernel_rfl) (PLC.out _ hs)) ?_
                refine hgt 4 87 kBi (.max, [.tmp 86, .const (.int .i64 0)], [3, 3]) (.int .i64 (max cv 0)) (by kernel_rfl) (by kernel_rfl) (by kernel_rfl) (by kernel_rfl) (by exact fun _ _ _ h => h) (by kernel_rfl) (by kernel_rfl) hS0 (fun o w' ho hs => ex_bi (vs := [.int .i64 cv, .int .i64 0]) ho (by kernel_rfl) (fun ty cs => PMX.out ty cs _)) ?_
                refine hgt 5 88 kFA (97, .tmp 10, 0) (.pointer (some ⟨z, 0, none⟩)) (by kernel_rfl) (by kernel_rfl) (by kernel_rfl) (by kernel_rfl) (by exact fun _ _ _ h => h) (by kernel_rfl) (by kernel_rfl) hS0 (fun o w' ho hs => ex_fa ho (by kernel_rfl) (PA0.out _)) ?_
                refine hgt 6 89 kLoad (33, .tmp 88) (.slice fa x.b.length fc) (by kernel_rfl) (by kernel_rfl) (by kernel_rfl) (by kernel_rfl) (by exact fun _ _ _ h => h) (by kernel_rfl) (by kernel_rfl) hS0 (fun o w' ho hs => ex_load ho (by kernel_rfl) (PL0.out _ hs)) ?_
                refine hgt 7 90 kBi (.len, [.tmp 89], [33]) (.int .i64 (x.b.length : Int)) (by kernel_rfl) (by kernel_rfl) (by kernel_rfl) (by kernel_rfl) (by exact fun _ _ _ h => h) (by kernel_rfl) (by kernel_rfl) hS0 (fun o w' ho hs => ex_bi (vs := [.slice fa x.b.length fc]) ho (by kernel_rfl) (fun ty cs => PLN.out ty cs _)) ?_
                refine hgt 8 91 kFA (97, .tmp 10, 1) (.pointer (some ⟨z, 1, none⟩)) (by kernel_rfl) (by kernel_rfl) (by kernel_rfl) (by kernel_rfl) (by exact fun _ _ _ h => h) (by kernel_rfl) (by kernel_rfl) hS0 (fun o w' ho hs => ex_fa ho (by kernel_rfl) (PA1.out _)) ?_
                refine hgt 9 92 kLoad (3, .tmp 91) (.int .i64 x.safe) (by kernel_rfl) (by kernel_rfl) (by kernel_rfl) (by kernel_rfl) (by exact fun _ _ _ h => h) (by kernel_rfl) (by kernel_rfl) hS0 (fun o w' ho hs => ex_load ho (by kernel_rfl) (PL1.out _ hs)) ?_
                refine hgt 10 93 kBin (.sub, 3, .tmp 90, .tmp 92) (.int .i64 ((x.b.length : Int) - x.safe)) (by kernel_rfl) (by kernel_rfl) (by kernel_rfl) (by kernel_rfl) (by exact fun _ _ _ h => h) (by kernel_rfl) (by kernel_rfl) hS0 (fun o w' ho hs => ex_bin (vx := .int .i64 (x.b.length : Int)) (vy := .int .i64 x.safe) ho (by kernel_rfl) (by kernel_rfl) rfl (PSB.out _)) ?_
                refine hgt 11 94 kBi (.min, [.tmp 87, .tmp 93], [3, 3]) (.int .i64 dI) (by kernel_rfl) (by kernel_rfl) (by kernel_rfl) (by kernel_rfl) (by exact fun _ _ _ h => h) (by kernel_rfl) (by kernel_rfl) hS0 (fun o w' ho hs => ex_bi (vs := [.int .i64 (max cv 0), .int .i64 ((x.b.length : Int) - x.safe)]) ho (by kernel_rfl) (fun ty cs => PMN.out ty cs _)) ?_
                refine hg1 12 (by kernel_rfl) ?_
                refine hg_val 11 kAssign (.tmp 94) (.int .i64 dI) (by kernel_rfl) (fun o ho => ex_assign ho (by kernel_rfl)) (.inr hS0) ?_
                refine hg_done (by kernel_rfl) ?_
                obtain ⟨w6, hw6⟩ : ∃ w6, w5.drew = w6 := ⟨_, rfl⟩
                have hf6 : Fr (· = gd) wr w6 := by rw [← hw6]; exact hf0
                have HF6 := hid hf6
                have hat6 := HAT.out.fr hf6 (fun k hk e => by have := HGD.out.1 k hk; omega)
                have HAT6 := hid hat6
                have HD6 := hid (show DoneR w6 gd fs.length ((kk : Int) :: done) from (HD.out.put hkm).fr (show Fr (fun _ => False) (wr.setCell ⟨gd, kk, none⟩ (.bool true)) w6 from by
                  rw [← hw6, ← hw5]
                  exact (Fr.of_below ((Below.refl _ _).alloc (Nat.le_refl _) _)).drew) id)
                have v6 : w6.heap[z]? = some (.cells #[.slice fa x.b.length fc, .int .i64 x.safe] 97 (0, 0)) := by rw [← hw6]; exact HV5.out
                have y0 : w6.cell? ⟨z, 0, none⟩ = some (.slice fa x.b.length fc) := cell_of_heap v6 0
                have y1 : w6.cell? ⟨z, 1, none⟩ = some (.int .i64 x.safe) := cell_of_heap v6 1
                have y2 : w6.cell? ⟨rb, 1, none⟩ = some (.slice (some ⟨g, 0, none⟩) fz2.length cf2) := cell_of_heap hat6.head 1
                obtain ⟨cur6, hg6⟩ := hat6.blk
                have y3 := frozen_of hg6 (kk * 2)
                have y4 := frozen_of hg6 (kk * 2 + 1)
                have y5 := hat6.q0
                have y6 := hat6.q1
                have ne5 : z ≠ g := by omega
                have ne6 : g ≠ z := by omega
                rw [hw6]
                clear HGB hw5 hw6 hf0 hv5 HV5 hkc hkc5 hkb5 hkb hkF PA0 PA1 PL0 PL1 PIA PLC PMX PLN PSB PMN hS0 hf6 hat6 v6 cur6 hg6 k1 kx0 kx1 curg zx0 zx1 kd zd hdI k3 j1
                go_wp2_with fail
                go_roundg (sk.length - (i + 1))
                case measure => exact meas_lt hk hlt
                case rel =>
                  obtain ⟨n9, hn9⟩ : ∃ n9 : Nat, x.safe + dI = (n9 : Int) := ⟨(x.safe + dI).toNat, by omega⟩
                  obtain ⟨q1, q2⟩ := HAT6.out.cutAt HRZ.out.ok (n := n9) (by omega) hxs3 (fun k hk => Nat.lt_of_lt_of_le (HRZ.out.lt k hk) HF6.out.size)
                  rw [hn9, show max (n9 : Int) 0 = (n9 : Int) from by omega, Int.toNat_natCast]
                  have hs9 := rcut_step HX.out (HCN.out.trans hn9)
                  have hU3 := HU2.out
                  rw [HKK.out, hs9] at hU3
                  have hd6 := (HD6.out).fr ((((Fr.refl (· = g) w6).setCell (p := ⟨g, kk * 2, none⟩) (fun _ => rfl) (.slice fa n9 fc))).setCell (p := ⟨g, kk * 2 + 1, none⟩) (fun _ => rfl) (.int .i64 (n9 : Int))) (fun e => ne2 e)
                  exact ⟨i + 1, (kk : Int) :: done, fl.set kk ⟨x.b.take n9, n9⟩, by go_num, hlt, Nat.le_refl _, hid hU3, hid (by rw [List.length_set]; exact HFLL.out), hid hd6, hid q1, hid (HFZ.out.trans ((HF6.out.mono (fun k _ e => .inr e)).trans (q2.mono (fun k _ h => .inl h))))⟩
              · have hcu' : ¬ (i : Int) < (cuts.length : Int) := by omega
                go_wp2_with fail
                go_roundg (sk.length - (i + 1))
                case measure => exact meas_lt hk hlt
                case rel =>
                  obtain ⟨n9, hn9⟩ : ∃ n9 : Nat, x.safe = (n9 : Int) := ⟨x.safe.toNat, by omega⟩
                  have hfA : Fr (· = gd) wr (wr.setCell ⟨gd, kk, none⟩ (.bool true)) := (Fr.refl (· = gd) wr).setCell (fun _ => rfl) _
                  have hatA := HAT.out.fr hfA (fun k hk e => by have := HGD.out.1 k hk; omega)
                  obtain ⟨q1, q2⟩ := hatA.cutAt HRZ.out.ok (n := n9) (by omega) hxs3 (fun k hk => Nat.lt_of_lt_of_le (HRZ.out.lt k hk) hfA.size)
                  have hs9 := rcut_step (cuts := cuts) (i := i) (n := n9) HX.out (by unfold rcutN; rw [List.getElem?_eq_none (by omega)]; simp only; omega)
                  have hU3 := HU2.out
                  rw [HKK.out, hs9] at hU3
                  have hd6 := ((HD.out).put hkm).fr ((((Fr.refl (· = g) _).setCell (p := ⟨g, kk * 2, none⟩) (fun _ => rfl) (.slice fa n9 fc))).setCell (p := ⟨g, kk * 2 + 1, none⟩) (fun _ => rfl) (.int .i64 (n9 : Int))) (fun e => ne2 e)
                  have hff := HFZ.out.trans ((hfA.mono (S' := fun k => F1 k ∨ k = gd) (fun k _ e => .inr e)).trans (q2.mono (S' := fun k => F1 k ∨ k = gd) (fun k _ h => .inl h)))
                  rw [hn9, show max (n9 : Int) 0 = (n9 : Int) from by omega, Int.toNat_natCast]
                  exact ⟨i + 1, (kk : Int) :: done, fl.set kk ⟨x.b.take n9, n9⟩, by go_num, hlt, Nat.le_refl _, hid hU3, hid (by rw [List.length_set]; exact HFLL.out), hid (hd6.fr (S := fun _ => False) (Fr.of_below ((Below.refl _ _).alloc (Nat.le_refl _) _)) id), hid (q1.below ((Below.refl _ _).alloc (Nat.le_refl _) _)), hid (hff.trans (Fr.of_below ((Below.refl _ _).alloc (Nat.le_refl _) _)))⟩
          · obtain rfl : i = sk.length := by omega
            have hU3 := HU.out
            rw [List.drop_length] at hU3
            have hU4 : fl = rupGo cuts sk 0 [] st.files := hU3
            have HU4 := hid hU4
            obtain ⟨_, a0, c0, rfl, _⟩ := id hbz.seen
            obtain ⟨ac9, cc9, rfl, _⟩ := hbz.chg.len
            have HBZ := hid hbz
            have HHZ := hid hhz
            have HEZ := hid hez
            have hlt' : ¬ (sk.length : Int) < (sk.length : Int) := by omega
            have f2 := frozen_of hhz 2
            have f4 := frozen_of hhz 4
            have f5 := frozen_of hhz 5
            have f6 := frozen_of hhz 6
            have k2 : wr.cell? ⟨rb, 2, none⟩ = some (.slice a0 st.seen.length c0) := cell_of_heap hhz 2
            have k4 : wr.cell? ⟨rb, 4, none⟩ = some (.slice ac9 st.chg.length cc9) := cell_of_heap hhz 4
            have k5 : wr.cell? ⟨rb, 5, none⟩ = some (.int .i64 st.armed) := cell_of_heap hhz 5
            have k6 : wr.cell? ⟨rb, 6, none⟩ = some (.bool st.down) := cell_of_heap hhz 6
            clear hU3 hU4 hbz hhz hez hrz
            go_wp2_with fail
            go_end0
            have hf := (((frH wr rb 2 (.slice az sk.length cz)).trans (frH _ rb 4 (.slice none 0 0))).trans (frH _ rb 5 (.int .i64 (-1)))).trans (frH _ rb 6 (.bool false))
            have hh := heap_store (heap_store (heap_store (heap_store HHZ.out 2 (.slice az sk.length cz)) 4 (.slice none 0 0)) 5 (.int .i64 (-1))) 6 (.bool false)
            have ho := HRZ.out.ok
            refine ⟨rfl, F1, D1, ?_, ⟨?_, HTA.out.fF, HTA.out.fD⟩⟩
            · have he : rup st n cuts = { st with files := fl, seen := sk, safe := sk, chg := [], armed := -1, down := false } := by
                unfold rup
                rw [HSK.out, ← HU4.out]
              rw [he]
              exact ⟨⟨ho.room0, ho.room1, ho.safeI, ho.safeI, fun c hc => by simp at hc, ho.fil⟩, ⟨fz, vf, _, _, _, HEZ.out, ((HBZ.out.setSeen HBZ.out.safe).noChg).turnH hf hh, hh.trans rfl⟩, fun k hk => Nat.lt_of_lt_of_le (HRZ.out.lt k hk) hf.size⟩
            · exact HTA.out.fr.trans' (HFZ.out.trans (hf.mono (S' := fun k => F1 k ∨ k = gd) (fun k _ e => .inl (e ▸ HBZ.out.self)))) (fun k hk h => h.elim (fun h => (HTA.out.fF k h).resolve_right (by omega)) (fun e => absurd HGD.out.2.1 (by omega)))
      · go_wp2
        obtain ⟨wA, hwA⟩ : ∃ wA, wr.alloc (.cells (madeCells #[.bool false] fs.length) 4) = wA := ⟨_, rfl⟩
        have hbA : Below wr.heap.size wr wA := by rw [← hwA]; exact (Below.refl _ _).alloc (Nat.le_refl _) _
        have HDA := hid (show DoneR wA wr.heap.size fs.length [] from by rw [← hwA]; exact DoneR.made wr fs.length)
        have HRA := hid (HR1.out.below hbA)
        have HBA := hid hbA
        have HLF := hid (fun k (hk : F1 k) => HR1.out.ltF hk)
        rw [hwA]
        clear hwA hbA
        obtain ⟨gd, hgd⟩ : ∃ gd, wr.heap.size = gd := ⟨_, rfl⟩
        rw [hgd] at HDA ⊢
        have HTA := hid (HT1.out.behind HBA.out)
        have HGD := hid (show (∀ k, D1 k → k < gd) ∧ w.heap.size ≤ gd ∧ gd < wA.heap.size from ⟨fun k hk => by rw [← hgd]; exact HR1.out.lt k hk, by rw [← hgd]; exact HT1.out.fr.size, by obtain ⟨dc, h1, _⟩ := HDA.out; exact lt_of_heap h1⟩)
        clear hgd
        go_loopg [8] sk.length (fun kx s8 wz => ∃ (i : Nat) (done : List Int) (fl : List RFil), s8 = .int .i64 i ∧ i ≤ sk.length ∧ sk.length - i ≤ kx ∧ Hid (rupGo cuts (sk.drop i) i done fl = rupGo cuts sk 0 [] st.files) ∧ Hid (fl.length = st.files.length) ∧ Hid (DoneR wz gd fs.length done) ∧ Hid (RSr wz F1 D1 rb { st with safe := sk, files := fl }) ∧ Hid (Fr (fun k => F1 k ∨ k = gd) wA wz))
        case atStart => exact ⟨0, [], st.files, rfl, Nat.zero_le _, Nat.le_refl _, hid rfl, hid rfl, HDA, HRA, hid (Fr.refl _ _)⟩
        case round =>
          obtain ⟨i, done, fl, rfl, hi, hk, HU, HFLL, HD, HRZ, HFZ⟩ := hrel
          have hrz := HRZ.out
          obtain ⟨fz, vf, vs, va, vc, hez, hbz, hhz⟩ := hrz.lies
          obtain ⟨_, az, cz, rfl, _⟩ := id hbz.safe
          have k3 : wr.cell? ⟨rb, 3, none⟩ = some (.slice az sk.length cz) := cell_of_heap hhz 3
          by_cases hlt : i < sk.length
          · have hlt' : (i : Int) < (sk.length : Int) := by omega
            obtain ⟨q, hq⟩ : ∃ q, sk[i]? = some q := ⟨_, List.getElem?_eq_getElem hlt⟩
            obtain ⟨eb, eo, rfl, heb, _, e1, e2, hecell⟩ := hbz.safe.elem rentC_len (by decide) hq
            have hqi := HSOK.out q (List.mem_of_getElem? hq)
            obtain ⟨kk, hkk⟩ : ∃ kk : Nat, q.2 = (kk : Int) := ⟨q.2.toNat, by omega⟩
            have j1 : wr.cell? ⟨eb, eo + i * 2 + 1, none⟩ = some (.int .i64 (kk : Int)) := by rw [← hkk]; exact hecell 1 _ rfl
            have hkm : kk < fs.length := by have := HFL.out; omega
            have hkm' : (kk : Int) < (fs.length : Int) := by omega
            obtain ⟨dc, hd1, hd2, hd3⟩ := HD.out
            have kd : wr.cell? ⟨gd, kk, none⟩ = some (.bool (decide ((kk : Int) ∈ done))) := (cell_of_heap hd1 kk).trans (hd3 kk hkm)
            have zd := frozen_of hd1 kk
            by_cases hin : (kk : Int) ∈ done
            · rw [decide_eq_true hin] at kd
              have hU2 := rupGo_in (cuts := cuts) (fl := fl) hq (by rw [hkk]; exact hin)
              have HU2 := hid (hU2.symm.trans HU.out)
              clear hU2 hrz hez hbz hhz hq hecell hqi hkk hd1 hd2 hd3 hin
              go_wp2_with fail
              go_roundg (sk.length - (i + 1))
              case measure => exact meas_lt hk hlt
              case rel => exact ⟨i + 1, done, fl, by go_num, hlt, Nat.le_refl _, HU2, HFLL, HD, HRZ, HFZ⟩
            · rw [decide_eq_false hin] at kd
              have hlf : fl.length = fs.length := by rw [HFLL.out, HFL.out]
              obtain ⟨x, hx⟩ : ∃ x, fl[kk]? = some x := ⟨_, List.getElem?_eq_getElem (by omega)⟩
              obtain ⟨fz2, g, cf2, fa, fc, a0, c0, va2, vc2, hat⟩ := hrz.openAt (kk := kk) (x := x) hx
              have hxo := hrz.ok.fil x (List.mem_of_getElem? hx)
              have hfzl : fz2.length = fs.length := by
                have h9 : fz2.length = fl.length := by rw [← congrArg List.length hat.fil]; simp
                omega
              have k1 : wr.cell? ⟨rb, 1, none⟩ = some (.slice (some ⟨g, 0, none⟩) fz2.length cf2) := cell_of_heap hat.head 1
              have kx0 := hat.q0
              have kx1 := hat.q1
              obtain ⟨curg, hg⟩ := hat.blk
              have zx0 := frozen_of hg (kk * 2)
              have zx1 := frozen_of hg (kk * 2 + 1)
              have hkz : (kk : Int) < (fz2.length : Int) := by omega
              have hle1 := hat.le1
              have ft1 := hat.fit.1
              have ft2 := hat.fit.2.1
              have hgl := lt_of_heap hg
              have hgdl := lt_of_heap hd1
              have hrl := lt_of_heap hat.head
              have ne1 : g ≠ gd := by have := HGD.out.1 g (hat.body.sub g hat.fg); omega
              have ne2 : gd ≠ g := fun e => ne1 e.symm
              have ne3 : rb ≠ gd := by have := HGD.out.1 rb (hat.body.sub rb hat.body.self); omega
              have ne4 : gd ≠ rb := fun e => ne3 e.symm
              have hxs : 0 ≤ x.safe := hxo.1
              have hxs2 : x.safe ≤ (x.b.length : Int) := hxo.2.1
              have hxs3 := hxo.2.2
              have HAT := hid hat
              have HGB := hid hg
              have HX := hid hx
              have hU2 := rupGo_new (cuts := cuts) (fl := fl) hq (by rw [hkk]; exact hin)
              have HU2 := hid (hU2.symm.trans HU.out)
              have HKK := hid hkk
              clear hU2 hrz hez hbz hhz hq hecell hqi hkk hd1 hd2 hd3 hat hg hx hin hlf hfzl
              by_cases hcu : i < cuts.length
              · have hcu' : (i : Int) < (cuts.length : Int) := by omega
                obtain ⟨cv, hcv⟩ : ∃ cv, cuts[i]? = some cv := ⟨_, List.getElem?_eq_getElem hcu⟩
                have hfw : Fr (fun k => F k ∨ w.heap.size ≤ k) w wr := (HTA.out.fr.mono (fun k _ h => .inl h)).trans (HFZ.out.mono (fun k _ h => h.elim (fun h => HTA.out.fF k h) (fun e => .inr (e ▸ HGD.out.2.1))))
                obtain ⟨kb, koff, rfl, hkc0, hkb0, hkF, hk1, hk2⟩ := (HK.out).cellAt (i := i) (x := .int .i64 cv) (by rw [List.getElem?_map, hcv]; rfl)
                have hkc : wr.cell? ⟨kb, koff + i, none⟩ = some (.int .i64 cv) := (hfw.cell (p := ⟨kb, koff + i, none⟩) hkb0 (fun e => e.elim (fun e => hkF e) (fun e => absurd hkb0 (by have e' : w.heap.size ≤ kb := e; omega)))).trans hkc0
                have hkb : kb < wr.heap.size := Nat.lt_of_lt_of_le hkb0 hfw.size
                have hkg : kb ≠ gd := by have := HGD.out.2.1; omega
                obtain ⟨dI, hdI⟩ : ∃ dI, min (max cv 0) ((x.b.length : Int) - x.safe) = dI := ⟨_, rfl⟩
                have hd0 : 0 ≤ dI := by omega
                have hd1 : x.safe + dI ≤ (x.b.length : Int) := by omega
                have HCN := hid (show rcutN cuts i x = x.safe + dI from by unfold rcutN; rw [hcv]; simp only; rw [hdI])
                clear hcv hfw hkc0
                go_wp2_with fail
                obtain ⟨z, hz⟩ : ∃ z, wr.heap.size = z := ⟨_, rfl⟩
                have hf0 : Fr (· = gd) wr ((wr.setCell ⟨gd, kk, none⟩ (.bool true)).alloc (.cells #[.slice fa x.b.length fc, .int .i64 x.safe] 97)).drew := (((Fr.refl (· = gd) wr).setCell (fun _ => rfl) _).trans (Fr.of_below ((Below.refl _ _).alloc (Nat.le_refl _) _))).drew
                obtain ⟨w5, hw5⟩ : ∃ w5, (wr.setCell ⟨gd, kk, none⟩ (.bool true)).alloc (.cells #[.slice fa x.b.length fc, .int .i64 x.safe] 97) = w5 := ⟨_, rfl⟩
                rw [hw5] at hf0
                have hv5 : w5.heap[z]? = some (.cells #[.slice fa x.b.length fc, .int .i64 x.safe] 97 (0, 0)) := by
                  rw [← hw5, ← hz]
                  have h9 := heap_alloc_new (wr.setCell ⟨gd, kk, none⟩ (.bool true)) (.cells #[.slice fa x.b.length fc, .int .i64 x.safe] 97)
                  rwa [show (wr.setCell ⟨gd, kk, none⟩ (.bool true)).heap.size = wr.heap.size from by simp] at h9
                have HV5 := hid hv5
                have hkc5 : w5.cell? ⟨kb, koff + i, none⟩ = some (.int .i64 cv) := (hf0.cell (p := ⟨kb, koff + i, none⟩) hkb (fun e => hkg e)).trans hkc
                have hkb5 : kb < w5.heap.size := Nat.lt_of_lt_of_le hkb hf0.size
                have PA0 := hid (show ∀ W, (Instr.fieldAt 97 (.pointer (some ⟨z, 0, none⟩)) 0).run Tryz.prog W = .ok (.pointer (some ⟨z, 0, none⟩)) W from fun W => by go_simp)
                have PA1 := hid (show ∀ W, (Instr.fieldAt 97 (.pointer (some ⟨z, 0, none⟩)) 1).run Tryz.prog W = .ok (.pointer (some ⟨z, 1, none⟩)) W from fun W => by go_simp)
                have PL0 := hid (show ∀ W, Fr (fun _ => False) w5 W → (Instr.loadAt 33 (.pointer (some ⟨z, 0, none⟩))).run Tryz.prog W = .ok (.slice fa x.b.length fc) W from fun W hW => ldb W (cell_of_heap (hW.heap HV5.out id) 0))
                have PL1 := hid (show ∀ W, Fr (fun _ => False) w5 W → (Instr.loadAt 3 (.pointer (some ⟨z, 1, none⟩))).run Tryz.prog W = .ok (.int .i64 x.safe) W from fun W hW => ldi W (cell_of_heap (hW.heap HV5.out id) 1))
                have PIA := hid (show ∀ W, (Instr.indexAt 34 (.slice (some ⟨kb, koff, none⟩) cuts.length kc) (.int .i64 (i : Int))).run Tryz.prog W = .ok (.pointer (some ⟨kb, koff + i, none⟩)) W from fun W => by go_simp)
                have PLC := hid (show ∀ W, Fr (fun _ => False) w5 W → (Instr.loadAt 3 (.pointer (some ⟨kb, koff + i, none⟩))).run Tryz.prog W = .ok (.int .i64 cv) W from fun W hW => ldi W ((hW.cell (p := ⟨kb, koff + i, none⟩) hkb5 id).trans hkc5))
                have PMX := hid (show ∀ ty cs W, (builtin .max #[3, 3] ty cs #[.int .i64 cv, .int .i64 0]).run Tryz.prog W = .ok (.value (.int .i64 (max cv 0))) W from fun ty cs W => by go_simp)
                have PLN := hid (show ∀ ty cs W, (builtin .len #[33] ty cs #[.slice fa x.b.length fc]).run Tryz.prog W = .ok (.value (.int .i64 (x.b.length : Int))) W from fun ty cs W => by go_simp)
                have PSB := hid (show ∀ W, (binOp .sub 3 (.int .i64 (x.b.length : Int)) (.int .i64 x.safe)).run Tryz.prog W = .ok (.int .i64 ((x.b.length : Int) - x.safe)) W from fun W => by go_simp; exact IntWalk.i64_in _ (by omega))
                have PMN := hid (show ∀ ty cs W, (builtin .min #[3, 3] ty cs #[.int .i64 (max cv 0), .int .i64 ((x.b.length : Int) - x.safe)]).run Tryz.prog W = .ok (.value (.int .i64 dI)) W from fun ty cs W => by rw [← hdI]; go_simp)
                have hS0 : Fr (fun _ => False) w5 w5.drew := (Fr.refl _ w5).drew
                rw [hw5, hz]
                refine hg_start (fun W => Fr (fun _ => False) w5 W) 99 mixed ?_
                refine hgt 0 83 kMove (.tmp 2) (.slice (some ⟨kb, koff, none⟩) cuts.length kc) (by kernel_rfl) (by kernel_rfl) (by kernel_rfl) (by kernel_rfl) (by exact fun _ _ _ h => h) (by kernel_rfl) (by kernel_rfl) hS0 (fun o w' ho hs => ex_move ho (by kernel_rfl)) ?_
                refine hgt 1 84 kMove (.tmp 8) (.int .i64 (i : Int)) (by kernel_rfl) (by kernel_rfl) (by kernel_rfl) (by kernel_rfl) (by exact fun _ _ _ h => h) (by kernel_rfl) (by kernel_rfl) hS0 (fun o w' ho hs => ex_move ho (by kernel_rfl)) ?_
                refine hgt 2 85 kIA (34, .tmp 83, .tmp 84) (.pointer (some ⟨kb, koff + i, none⟩)) (by kernel_rfl) (by kernel_rfl) (by kernel_rfl) (by kernel_rfl) (by exact fun _ _ _ h => h) (by kernel_rfl) (by kernel_rfl) hS0 (fun o w' ho hs => ex_ia ho (by kernel_rfl) (by kernel_rfl) (PIA.out _)) ?_
                refine hgt 3 86 kLoad (3, .tmp 85) (.int .i64 cv) (by kernel_rfl) (by kernel_rfl) (by kernel_rfl) (by kernel_rfl) (by exact fun _ _ _ h => h) (by kernel_rfl) (by kernel_rfl) hS0 (fun o w' ho hs => ex_load ho (by kernel_rfl) (PLC.out _ hs)) ?_
                refine hgt 4 87 kBi (.max, [.tmp 86, .const (.int .i64 0)], [3, 3]) (.int .i64 (max cv 0)) (by kernel_rfl) (by kernel_rfl) (by kernel_rfl) (by kernel_rfl) (by exact fun _ _ _ h => h) (by kernel_rfl) (by kernel_rfl) hS0 (fun o w' ho hs => ex_bi (vs := [.int .i64 cv, .int .i64 0]) ho (by kernel_rfl) (fun ty cs => PMX.out ty cs _)) ?_
                refine hgt 5 88 kFA (97, .tmp 10, 0) (.pointer (some ⟨z, 0, none⟩)) (by kernel_rfl) (by kernel_rfl) (by kernel_rfl) (by kernel_rfl) (by exact fun _ _ _ h => h) (by kernel_rfl) (by kernel_rfl) hS0 (fun o w' ho hs => ex_fa ho (by kernel_rfl) (PA0.out _)) ?_
                refine hgt 6 89 kLoad (33, .tmp 88) (.slice fa x.b.length fc) (by kernel_rfl) (by kernel_rfl) (by kernel_rfl) (by kernel_rfl) (by exact fun _ _ _ h => h) (by kernel_rfl) (by kernel_rfl) hS0 (fun o w' ho hs => ex_load ho (by kernel_rfl) (PL0.out _ hs)) ?_
                refine hgt 7 90 kBi (.len, [.tmp 89], [33]) (.int .i64 (x.b.length : Int)) (by kernel_rfl) (by kernel_rfl) (by kernel_rfl) (by kernel_rfl) (by exact fun _ _ _ h => h) (by kernel_rfl) (by kernel_rfl) hS0 (fun o w' ho hs => ex_bi (vs := [.slice fa x.b.length fc]) ho (by kernel_rfl) (fun ty cs => PLN.out ty cs _)) ?_
                refine hgt 8 91 kFA (97, .tmp 10, 1) (.pointer (some ⟨z, 1, none⟩)) (by kernel_rfl) (by kernel_rfl) (by kernel_rfl) (by kernel_rfl) (by exact fun _ _ _ h => h) (by kernel_rfl) (by kernel_rfl) hS0 (fun o w' ho hs => ex_fa ho (by kernel_rfl) (PA1.out _)) ?_
                refine hgt 9 92 kLoad (3, .tmp 91) (.int .i64 x.safe) (by kernel_rfl) (by kernel_rfl) (by kernel_rfl) (by kernel_rfl) (by exact fun _ _ _ h => h) (by kernel_rfl) (by kernel_rfl) hS0 (fun o w' ho hs => ex_load ho (by kernel_rfl) (PL1.out _ hs)) ?_
                refine hgt 10 93 kBin (.sub, 3, .tmp 90, .tmp 92) (.int .i64 ((x.b.length : Int) - x.safe)) (by kernel_rfl) (by kernel_rfl) (by kernel_rfl) (by kernel_rfl) (by exact fun _ _ _ h => h) (by kernel_rfl) (by kernel_rfl) hS0 (fun o w' ho hs => ex_bin (vx := .int .i64 (x.b.length : Int)) (vy := .int .i64 x.safe) ho (by kernel_rfl) (by kernel_rfl) rfl (PSB.out _)) ?_
                refine hgt 11 94 kBi (.min, [.tmp 87, .tmp 93], [3, 3]) (.int .i64 dI) (by kernel_rfl) (by kernel_rfl) (by kernel_rfl) (by kernel_rfl) (by exact fun _ _ _ h => h) (by kernel_rfl) (by kernel_rfl) hS0 (fun o w' ho hs => ex_bi (vs := [.int .i64 (max cv 0), .int .i64 ((x.b.length : Int) - x.safe)]) ho (by kernel_rfl) (fun ty cs => PMN.out ty cs _)) ?_
                refine hg1 12 (by kernel_rfl) ?_
                refine hg_val 11 kAssign (.tmp 94) (.int .i64 dI) (by kernel_rfl) (fun o ho => ex_assign ho (by kernel_rfl)) (.inr hS0) ?_
                refine hg_done (by kernel_rfl) ?_
                obtain ⟨w6, hw6⟩ : ∃ w6, w5.drew = w6 := ⟨_, rfl⟩
                have hf6 : Fr (· = gd) wr w6 := by rw [← hw6]; exact hf0
                have HF6 := hid hf6
                have hat6 := HAT.out.fr hf6 (fun k hk e => by have := HGD.out.1 k hk; omega)
                have HAT6 := hid hat6
                have HD6 := hid (show DoneR w6 gd fs.length ((kk : Int) :: done) from (HD.out.put hkm).fr (show Fr (fun _ => False) (wr.setCell ⟨gd, kk, none⟩ (.bool true)) w6 from by
                  rw [← hw6, ← hw5]
                  exact (Fr.of_below ((Below.refl _ _).alloc (Nat.le_refl _) _)).drew) id)
                have v6 : w6.heap[z]? = some (.cells #[.slice fa x.b.length fc, .int .i64 x.safe] 97 (0, 0)) := by rw [← hw6]; exact HV5.out
                have y0 : w6.cell? ⟨z, 0, none⟩ = some (.slice fa x.b.length fc) := cell_of_heap v6 0
                have y1 : w6.cell? ⟨z, 1, none⟩ = some (.int .i64 x.safe) := cell_of_heap v6 1
                have y2 : w6.cell? ⟨rb, 1, none⟩ = some (.slice (some ⟨g, 0, none⟩) fz2.length cf2) := cell_of_heap hat6.head 1
                obtain ⟨cur6, hg6⟩ := hat6.blk
                have y3 := frozen_of hg6 (kk * 2)
                have y4 := frozen_of hg6 (kk * 2 + 1)
                have y5 := hat6.q0
                have y6 := hat6.q1
                have ne5 : z ≠ g := by omega
                have ne6 : g ≠ z := by omega
                rw [hw6]
                clear HGB hw5 hw6 hf0 hv5 HV5 hkc hkc5 hkb5 hkb hkF PA0 PA1 PL0 PL1 PIA PLC PMX PLN PSB PMN hS0 hf6 hat6 v6 cur6 hg6 k1 kx0 kx1 curg zx0 zx1 kd zd hdI k3 j1
                go_wp2_with fail
                go_roundg (sk.length - (i + 1))
                case measure => exact meas_lt hk hlt
                case rel =>
                  obtain ⟨n9, hn9⟩ : ∃ n9 : Nat, x.safe + dI = (n9 : Int) := ⟨(x.safe + dI).toNat, by omega⟩
                  obtain ⟨q1, q2⟩ := HAT6.out.cutAt HRZ.out.ok (n := n9) (by omega) hxs3 (fun k hk => Nat.lt_of_lt_of_le (HRZ.out.lt k hk) HF6.out.size)
                  rw [hn9, show max (n9 : Int) 0 = (n9 : Int) from by omega, Int.toNat_natCast]
                  have hs9 := rcut_step HX.out (HCN.out.trans hn9)
                  have hU3 := HU2.out
                  rw [HKK.out, hs9] at hU3
                  have hd6 := (HD6.out).fr ((((Fr.refl (· = g) w6).setCell (p := ⟨g, kk * 2, none⟩) (fun _ => rfl) (.slice fa n9 fc))).setCell (p := ⟨g, kk * 2 + 1, none⟩) (fun _ => rfl) (.int .i64 (n9 : Int))) (fun e => ne2 e)
                  exact ⟨i + 1, (kk : Int) :: done, fl.set kk ⟨x.b.take n9, n9⟩, by go_num, hlt, Nat.le_refl _, hid hU3, hid (by rw [List.length_set]; exact HFLL.out), hid hd6, hid q1, hid (HFZ.out.trans ((HF6.out.mono (fun k _ e => .inr e)).trans (q2.mono (fun k _ h => .inl h))))⟩
              · have hcu' : ¬ (i : Int) < (cuts.length : Int) := by omega
                go_wp2_with fail
                go_roundg (sk.length - (i + 1))
                case measure => exact meas_lt hk hlt
                case rel =>
                  obtain ⟨n9, hn9⟩ : ∃ n9 : Nat, x.safe = (n9 : Int) := ⟨x.safe.toNat, by omega⟩
                  have hfA : Fr (· = gd) wr (wr.setCell ⟨gd, kk, none⟩ (.bool true)) := (Fr.refl (· = gd) wr).setCell (fun _ => rfl) _
                  have hatA := HAT.out.fr hfA (fun k hk e => by have := HGD.out.1 k hk; omega)
                  obtain ⟨q1, q2⟩ := hatA.cutAt HRZ.out.ok (n := n9) (by omega) hxs3 (fun k hk => Nat.lt_of_lt_of_le (HRZ.out.lt k hk) hfA.size)
                  have hs9 := rcut_step (cuts := cuts) (i := i) (n := n9) HX.out (by unfold rcutN; rw [List.getElem?_eq_none (by omega)]; simp only; omega)
                  have hU3 := HU2.out
                  rw [HKK.out, hs9] at hU3
                  have hd6 := ((HD.out).put hkm).fr ((((Fr.refl (· = g) _).setCell (p := ⟨g, kk * 2, none⟩) (fun _ => rfl) (.slice fa n9 fc))).setCell (p := ⟨g, kk * 2 + 1, none⟩) (fun _ => rfl) (.int .i64 (n9 : Int))) (fun e => ne2 e)
                  have hff := HFZ.out.trans ((hfA.mono (S' := fun k => F1 k ∨ k = gd) (fun k _ e => .inr e)).trans (q2.mono (S' := fun k => F1 k ∨ k = gd) (fun k _ h => .inl h)))
                  rw [hn9, show max (n9 : Int) 0 = (n9 : Int) from by omega, Int.toNat_natCast]
                  exact ⟨i + 1, (kk : Int) :: done, fl.set kk ⟨x.b.take n9, n9⟩, by go_num, hlt, Nat.le_refl _, hid hU3, hid (by rw [List.length_set]; exact HFLL.out), hid (hd6.fr (S := fun _ => False) (Fr.of_below ((Below.refl _ _).alloc (Nat.le_refl _) _)) id), hid (q1.below ((Below.refl _ _).alloc (Nat.le_refl _) _)), hid (hff.trans (Fr.of_below ((Below.refl _ _).alloc (Nat.le_refl _) _)))⟩
          · obtain rfl : i = sk.length := by omega
            have hU3 := HU.out
            rw [List.drop_length] at hU3
            have hU4 : fl = rupGo cuts sk 0 [] st.files := hU3
            have HU4 := hid hU4
            obtain ⟨_, a0, c0, rfl, _⟩ := id hbz.seen
            obtain ⟨ac9, cc9, rfl, _⟩ := hbz.chg.len
            have HBZ := hid hbz
            have HHZ := hid hhz
            have HEZ := hid hez
            have hlt' : ¬ (sk.length : Int) < (sk.length : Int) := by omega
            have f2 := frozen_of hhz 2
            have f4 := frozen_of hhz 4
            have f5 := frozen_of hhz 5
            have f6 := frozen_of hhz 6
            have k2 : wr.cell? ⟨rb, 2, none⟩ = some (.slice a0 st.seen.length c0) := cell_of_heap hhz 2
            have k4 : wr.cell? ⟨rb, 4, none⟩ = some (.slice ac9 st.chg.length cc9) := cell_of_heap hhz 4
            have k5 : wr.cell? ⟨rb, 5, none⟩ = some (.int .i64 st.armed) := cell_of_heap hhz 5
            have k6 : wr.cell? ⟨rb, 6, none⟩ = some (.bool st.down) := cell_of_heap hhz 6
            clear hU3 hU4 hbz hhz hez hrz
            go_wp2_with fail
            go_end0
            have hf := (((frH wr rb 2 (.slice az sk.length cz)).trans (frH _ rb 4 (.slice none 0 0))).trans (frH _ rb 5 (.int .i64 (-1)))).trans (frH _ rb 6 (.bool false))
            have hh := heap_store (heap_store (heap_store (heap_store HHZ.out 2 (.slice az sk.length cz)) 4 (.slice none 0 0)) 5 (.int .i64 (-1))) 6 (.bool false)
            have ho := HRZ.out.ok
            refine ⟨rfl, F1, D1, ?_, ⟨?_, HTA.out.fF, HTA.out.fD⟩⟩
            · have he : rup st n cuts = { st with files := fl, seen := sk, safe := sk, chg := [], armed := -1, down := false } := by
                unfold rup
                rw [HSK.out, ← HU4.out]
              rw [he]
              exact ⟨⟨ho.room0, ho.room1, ho.safeI, ho.safeI, fun c hc => by simp at hc, ho.fil⟩, ⟨fz, vf, _, _, _, HEZ.out, ((HBZ.out.setSeen HBZ.out.safe).noChg).turnH hf hh, hh.trans rfl⟩, fun k hk => Nat.lt_of_lt_of_le (HRZ.out.lt k hk) hf.size⟩
            · exact HTA.out.fr.trans' (HFZ.out.trans (hf.mono (S' := fun k => F1 k ∨ k = gd) (fun k _ e => .inl (e ▸ HBZ.out.self)))) (fun k hk h => h.elim (fun h => (HTA.out.fF k h).resolve_right (by omega)) (fun e => absurd HGD.out.2.1 (by omega)))
end Go.Proofs.YtgehalfnpbjjcaaGreat
