/- What tlv puts is got again, and what is got has those bytes: the plain functions are each other's back. -/
import Derived.Test.YtpomfegcifpfkaaPureTlv2
namespace Go.Proofs.Ytpomfegcifpfkaa
open Go Go.RowKit
theorem bytesNum_snoc64 (l : List UInt8) (c : UInt8) : bytesNum (l ++ [c]) = bytesNum l * 256 + c.toNat := by
  unfold bytesNum; rw [List.foldl_append]; rfl
theorem bytesNum_numBytes (n : Nat) : bytesNum (numBytes n) = n := by
  induction n using Nat.strongRecOn with
  | ind n ih =>
    by_cases h0 : n = 0
    · subst h0; rw [numBytes_zero]; rfl
    · rw [numBytes_pos n h0, bytesNum_snoc64, ih (n / 256) (by omega), UInt8.toNat_ofNat']
      omega
theorem numBytes_head (n : Nat) : (numBytes n).head? ≠ some 0 := by
  induction n using Nat.strongRecOn with
  | ind n ih =>
    by_cases h0 : n = 0
    · subst h0; rw [numBytes_zero]; simp
    · rw [numBytes_pos n h0]
      by_cases h1 : n / 256 = 0
      · rw [h1, numBytes_zero]
        simp only [List.nil_append, List.head?_cons, ne_eq, Option.some.injEq]
        intro h
        have := congrArg UInt8.toNat h
        rw [UInt8.toNat_ofNat'] at this
        have e : (0 : UInt8).toNat = 0 := rfl
        omega
      · have h2 := ih (n / 256) (by omega)
        rw [List.head?_append]
        cases hh : (numBytes (n / 256)).head? with
        | none =>
          rw [List.head?_eq_none_iff] at hh
          rw [numBytes_pos _ h1] at hh
          simp at hh
        | some c => rw [hh] at h2; simpa using h2
theorem numBytes_bytesNum (l : List UInt8) (h : l.head? ≠ some 0) : numBytes (bytesNum l) = l := by
  have key : ∀ (k : Nat) (l : List UInt8), l.length = k → l.head? ≠ some 0 → numBytes (bytesNum l) = l ∧ (l ≠ [] → bytesNum l ≠ 0) := by
    intro k
    induction k with
    | zero => intro l hl _; rw [List.length_eq_zero_iff] at hl; subst hl; exact ⟨by show numBytes 0 = []; exact numBytes_zero, fun h => absurd rfl h⟩
    | succ k ih =>
      intro l hl hh
      obtain ⟨p, c, rfl⟩ : ∃ p c, l = p ++ [c] := by
        have hne : l ≠ [] := by intro h; subst h; simp at hl
        exact ⟨l.dropLast, l.getLast hne, (List.dropLast_concat_getLast hne).symm⟩
      have hc := c.toNat_lt
      have hp : p.length = k := by simpa using hl
      have hpos : bytesNum (p ++ [c]) ≠ 0 := by
        rw [bytesNum_snoc64]
        cases p with
        | nil =>
          intro h0
          apply hh
          have : c.toNat = 0 := by omega
          simp only [List.nil_append, List.head?_cons, Option.some.injEq]
          exact UInt8.toNat_inj.mp this
        | cons a p =>
          have := (ih (a :: p) hp (by simpa using hh)).2 (by simp)
          omega
      refine ⟨?_, fun _ => hpos⟩
      rw [numBytes_pos _ hpos, bytesNum_snoc64]
      have hpp : p.head? ≠ some 0 := by
        cases p with
        | nil => simp
        | cons a p => simpa using hh
      rw [show (bytesNum p * 256 + c.toNat) / 256 = bytesNum p from by omega, show (bytesNum p * 256 + c.toNat) % 256 = c.toNat from by omega, (ih p hp hpp).1, UInt8.ofNat_toNat]
  exact (key _ l rfl h).1
theorem bytesNum_lt64 (l : List UInt8) (h : l.length ≤ 8) : bytesNum l < 18446744073709551616 := by
  have key : ∀ (k : Nat) (l : List UInt8), l.length = k → bytesNum l < 256 ^ k := by
    intro k
    induction k with
    | zero => intro l hl; rw [List.length_eq_zero_iff] at hl; subst hl; decide
    | succ k ih =>
      intro l hl
      obtain ⟨p, c, rfl⟩ : ∃ p c, l = p ++ [c] := by
        have hne : l ≠ [] := by intro h; subst h; simp at hl
        exact ⟨l.dropLast, l.getLast hne, (List.dropLast_concat_getLast hne).symm⟩
      have hc := c.toNat_lt
      have := ih p (by simpa using hl)
      rw [bytesNum_snoc64, Nat.pow_succ]
      omega
  have h1 := key _ l rfl
  exact Nat.lt_of_lt_of_le h1 (Nat.le_trans (Nat.pow_le_pow_right (by omega) h) (by decide))
mutual
/-- Its numbers have at most eight bytes. -/
def TV.sm : TV → Prop
  | .mk _ n _ l => n < 18446744073709551616 ∧ TV.sms l
def TV.sms : List TV → Prop
  | [] => True
  | v :: l => v.sm ∧ TV.sms l
end
theorem byte_val64 (n : Nat) (h : n < 256) : (UInt8.ofNat n).toNat = n := by rw [UInt8.toNat_ofNat']; exact Nat.mod_eq_of_lt h
theorem splitF_enc (t : UInt8) (b r : List UInt8) (hb : b.length ≤ 65535) : splitF (t :: UInt8.ofNat (b.length / 256) :: UInt8.ofNat (b.length % 256) :: (b ++ r)) = some (t, b, r) := by
  unfold splitF
  simp only
  rw [byte_val64 _ (by omega), byte_val64 _ (by omega), show b.length / 256 * 256 + b.length % 256 = b.length from by omega, if_pos (by simp), List.take_left, List.drop_left]
theorem splitF_back {b i r : List UInt8} {t : UInt8} (h : splitF b = some (t, i, r)) : i.length ≤ 65535 ∧ b = t :: UInt8.ofNat (i.length / 256) :: UInt8.ofNat (i.length % 256) :: (i ++ r) := by
  unfold splitF at h
  split at h
  · rename_i t' a c q
    split at h
    · rename_i hle
      simp only [Option.some.injEq, Prod.mk.injEq] at h
      obtain ⟨rfl, rfl, rfl⟩ := h
      have h1 := a.toNat_lt
      have h2 := c.toNat_lt
      have hl : (q.take (a.toNat * 256 + c.toNat)).length = a.toNat * 256 + c.toNat := by rw [List.length_take]; omega
      refine ⟨by rw [hl]; omega, ?_⟩
      rw [hl, List.take_append_drop, show (a.toNat * 256 + c.toNat) / 256 = a.toNat from by omega, show (a.toNat * 256 + c.toNat) % 256 = c.toNat from by omega, UInt8.ofNat_toNat, UInt8.ofNat_toNat]
    · cases h
  · cases h
theorem readsW_nil (rd : List UInt8 → Option (TV × List UInt8)) (f : Nat) : readsW rd f [] = some [] := by cases f <;> rfl
theorem readF_succ (d : Nat) (b : List UInt8) : readF (d + 1) b = readWith (fun i => readsW (readF d) i.length i) b := rfl
theorem inn_split {d : Nat} {tag : Int} {n : Nat} {b : List UInt8} {l : List TV} {k : Nat} (h : inn d (.mk tag n b l) = some k) : onlyB tag n b l.length = true ∧ (tag = 3 → d ≠ 0) ∧ (∃ s, inns (d - 1) l = some s) ∧ k ≤ 65535 := by
  refine ⟨?_, ?_, ?_, inn_le h⟩
  all_goals
    rw [inn] at h
    split at h
    · rename_i hc
      first
      | exact hc.1
      | exact hc.2
      | (rw [Option.bind_eq_some_iff] at h
         obtain ⟨s, hs, _⟩ := h
         exact ⟨s, hs⟩)
    · cases h
mutual
theorem readF_enc : ∀ (v : TV) (d k : Nat) (r : List UInt8), inn d v = some k → v.sm → readF d (enc v ++ r) = some (v, r)
  | .mk tag n b l, d, k, r, h, hs => by
    have hl := inn_length _ _ _ h
    obtain ⟨ho, hd, ⟨s, hin⟩, hk⟩ := inn_split h
    rw [TV.sm] at hs
    rw [enc_eq]
    have hsp : ∀ t : UInt8, splitF (t :: UInt8.ofNat ((TV.mk tag n b l).body.length / 256) :: UInt8.ofNat ((TV.mk tag n b l).body.length % 256) :: ((TV.mk tag n b l).body ++ r)) = some (t, (TV.mk tag n b l).body, r) := fun t => splitF_enc t _ r (by omega)
    have hrw : ∀ sub, readWith sub (UInt8.ofNat (TV.mk tag n b l).tag.toNat :: UInt8.ofNat ((TV.mk tag n b l).body.length / 256) :: UInt8.ofNat ((TV.mk tag n b l).body.length % 256) :: ((TV.mk tag n b l).body ++ r)) = (if (UInt8.ofNat tag.toNat).toNat = 1 then (if (TV.mk tag n b l).body.length ≤ 8 ∧ (TV.mk tag n b l).body.head? ≠ some 0 then some (.mk 1 (bytesNum (TV.mk tag n b l).body) [] [], r) else none)
      else if (UInt8.ofNat tag.toNat).toNat = 2 then some (.mk 2 0 (TV.mk tag n b l).body [], r)
      else if (UInt8.ofNat tag.toNat).toNat = 3 then (sub (TV.mk tag n b l).body).map fun l => (.mk 3 0 [] l, r)
      else none) := by
      intro sub
      unfold readWith
      rw [show (TV.mk tag n b l).tag = tag from rfl, hsp]
      rfl
    have hall : ∀ sub, readWith sub ((UInt8.ofNat (TV.mk tag n b l).tag.toNat :: UInt8.ofNat ((TV.mk tag n b l).body.length / 256) :: UInt8.ofNat ((TV.mk tag n b l).body.length % 256) :: (TV.mk tag n b l).body) ++ r) = _ := hrw
    clear hrw hsp
    unfold onlyB at ho
    by_cases h1 : tag = 1
    · subst h1
      rw [if_pos rfl] at ho
      simp only [Bool.and_eq_true, List.isEmpty_iff, beq_iff_eq, List.length_eq_zero_iff] at ho
      obtain ⟨rfl, rfl⟩ := ho
      have hb : (TV.mk 1 n [] []).body = numBytes n := by simp [TV.body, encs]
      rw [hb] at hall
      rw [hb]
      have hr : ∀ sub, readWith sub ((UInt8.ofNat (TV.mk 1 n [] []).tag.toNat :: UInt8.ofNat ((numBytes n).length / 256) :: UInt8.ofNat ((numBytes n).length % 256) :: numBytes n) ++ r) = some (TV.mk 1 n [] [], r) := by
        intro sub
        rw [hall, if_pos (by rfl), if_pos ⟨numBytes_le n hs.1, numBytes_head n⟩, bytesNum_numBytes]
      cases d <;> exact hr _
    · rw [if_neg h1] at ho
      by_cases h2 : tag = 2
      · subst h2
        rw [if_pos rfl] at ho
        simp only [Bool.and_eq_true, beq_iff_eq, List.length_eq_zero_iff] at ho
        obtain ⟨rfl, rfl⟩ := ho
        have hb : (TV.mk 2 0 b []).body = b := by simp [TV.body, encs, numBytes_zero]
        rw [hb] at hall
        rw [hb]
        have hr : ∀ sub, readWith sub ((UInt8.ofNat (TV.mk 2 0 b []).tag.toNat :: UInt8.ofNat (b.length / 256) :: UInt8.ofNat (b.length % 256) :: b) ++ r) = some (TV.mk 2 0 b [], r) := by
          intro sub
          rw [hall, if_neg (by decide), if_pos (by rfl)]
        cases d <;> exact hr _
      · rw [if_neg h2] at ho
        by_cases h3 : tag = 3
        · subst h3
          rw [if_pos rfl] at ho
          simp only [Bool.and_eq_true, beq_iff_eq, List.isEmpty_iff] at ho
          obtain ⟨rfl, rfl⟩ := ho
          have hb : (TV.mk 3 0 [] l).body = encs l := by simp [TV.body, numBytes_zero]
          rw [hb] at hall
          rw [hb]
          cases d with
          | zero => exact absurd rfl (hd rfl)
          | succ d =>
            rw [Nat.add_sub_cancel] at hin
            have hi := readsW_encs l d s (encs l).length hin hs.2 (Nat.le_refl _)
            rw [readF_succ, hall, if_neg (by decide), if_neg (by decide), if_pos (by rfl), hi]
            rfl
        · rw [if_neg h3] at ho; cases ho
theorem readsW_encs : ∀ (l : List TV) (d s f : Nat), inns d l = some s → TV.sms l → (encs l).length ≤ f → readsW (readF d) f (encs l) = some l
  | [], d, s, f, _, _, _ => by rw [encs]; exact readsW_nil _ _
  | v :: l, d, s, f, h, hs, hf => by
    rw [inns, Option.bind_eq_some_iff] at h
    obtain ⟨k, hk, h⟩ := h
    rw [Option.map_eq_some_iff] at h
    obtain ⟨s', hs', h⟩ := h
    rw [TV.sms] at hs
    rw [encs, List.length_append, enc_length] at hf
    obtain ⟨g, rfl⟩ : ∃ g, f = g + 1 := ⟨f - 1, by omega⟩
    have h1 := readF_enc v d k (encs l) hk hs.1
    have h2 := readsW_encs l d s' g hs' hs.2 (by omega)
    rw [encs]
    obtain ⟨c, q, hq⟩ : ∃ c q, enc v ++ encs l = c :: q := by rw [enc_eq]; exact ⟨_, _, rfl⟩
    rw [hq] at h1 ⊢
    rw [readsW, h1, Option.bind_some]
    show Option.map _ (readsW (readF d) g (encs l)) = _
    rw [h2]; rfl
end
/-- What is put is got. -/
theorem getF_enc {v : TV} {k : Nat} (h : inn 8 v = some k) (hs : v.sm) : getF (enc v) = (v, 0) := by
  have := readF_enc v 8 k [] h hs
  rw [List.append_nil] at this
  rw [getF, this]
/-- What a reader reads is right, and has those bytes. -/
def TvReads (d : Nat) (rd : List UInt8 → Option (TV × List UInt8)) : Prop := ∀ b v r, rd b = some (v, r) → b = enc v ++ r ∧ (inn d v).isSome = true ∧ v.sm
theorem TvReads.list {d : Nat} {rd : List UInt8 → Option (TV × List UInt8)} (hr : TvReads d rd) : ∀ (f : Nat) (b : List UInt8) (l : List TV), readsW rd f b = some l → b = encs l ∧ inns d l = some b.length ∧ TV.sms l
  | f, [], l, h => by
    rw [readsW_nil] at h
    simp only [Option.some.injEq] at h
    subst h
    exact ⟨by rw [encs], by rw [inns]; rfl, by rw [TV.sms]; trivial⟩
  | 0, c :: b, l, h => by rw [readsW] at h; cases h
  | f + 1, c :: b, l, h => by
    rw [readsW, Option.bind_eq_some_iff] at h
    obtain ⟨⟨v, r⟩, hv, h⟩ := h
    rw [Option.map_eq_some_iff] at h
    obtain ⟨l', hl, rfl⟩ := h
    obtain ⟨h1, h2, h3⟩ := hr _ _ _ hv
    obtain ⟨h4, h5, h6⟩ := hr.list f r l' hl
    have h7 : inn d v = some v.body.length := by
      obtain ⟨k, hk⟩ := Option.isSome_iff_exists.mp h2
      rw [hk, inn_length _ _ _ hk]
    refine ⟨by rw [encs, ← h4]; exact h1, ?_, by rw [TV.sms]; exact ⟨h3, h6⟩⟩
    rw [inns, h7, h5, Option.bind_some, Option.map_some, h1, List.length_append, enc_length]
    congr 1; omega
theorem readWith_back {d : Nat} {sub : List UInt8 → Option (List TV)} (hsub : ∀ i l, sub i = some l → d ≠ 0 ∧ i = encs l ∧ inns (d - 1) l = some i.length ∧ TV.sms l) : TvReads d (readWith sub) := by
  intro b v r h
  rw [readWith, Option.bind_eq_some_iff] at h
  obtain ⟨⟨t, i, q⟩, hsp, h⟩ := h
  obtain ⟨hi, rfl⟩ := splitF_back hsp
  simp only at h
  split at h
  · rename_i h1
    split at h
    · rename_i hc
      simp only [Option.some.injEq, Prod.mk.injEq] at h
      obtain ⟨rfl, rfl⟩ := h
      have hn := numBytes_bytesNum i hc.2
      have hb : (TV.mk 1 (bytesNum i) [] []).body = i := by simp [TV.body, encs, hn]
      refine ⟨?_, ?_, ?_⟩
      · rw [enc_eq, hb]
        show t :: _ = _
        rw [show t = UInt8.ofNat (TV.mk 1 (bytesNum i) [] []).tag.toNat from UInt8.toNat_inj.mp (by rw [h1]; rfl)]
        rfl
      · rw [inn, if_pos ⟨rfl, fun h => by cases h⟩, inns, Option.bind_some, if_pos (by rw [hn]; simp; omega)]; rfl
      · rw [TV.sm]; exact ⟨bytesNum_lt64 i hc.1, by rw [TV.sms]; trivial⟩
    · cases h
  · split at h
    · rename_i _ h1
      simp only [Option.some.injEq, Prod.mk.injEq] at h
      obtain ⟨rfl, rfl⟩ := h
      have hb : (TV.mk 2 0 i []).body = i := by simp [TV.body, encs, numBytes_zero]
      refine ⟨?_, ?_, ?_⟩
      · rw [enc_eq, hb]
        rw [show t = UInt8.ofNat (TV.mk 2 0 i []).tag.toNat from UInt8.toNat_inj.mp (by rw [h1]; rfl)]
        rfl
      · rw [inn, if_pos ⟨rfl, fun h => by cases h⟩, inns, Option.bind_some, if_pos (by rw [numBytes_zero]; simp; omega)]; rfl
      · rw [TV.sm]; exact ⟨by decide, by rw [TV.sms]; trivial⟩
    · split at h
      · rename_i _ _ h1
        rw [Option.map_eq_some_iff] at h
        obtain ⟨l, hl, h⟩ := h
        simp only [Prod.mk.injEq] at h
        obtain ⟨rfl, rfl⟩ := h
        obtain ⟨hd, he, hin, hsm⟩ := hsub i l hl
        have hb : (TV.mk 3 0 [] l).body = i := by simp [TV.body, numBytes_zero, he]
        refine ⟨?_, ?_, ?_⟩
        · rw [enc_eq, hb]
          rw [show t = UInt8.ofNat (TV.mk 3 0 [] l).tag.toNat from UInt8.toNat_inj.mp (by rw [h1]; rfl)]
          rfl
        · rw [inn, if_pos ⟨rfl, fun _ => hd⟩, hin, Option.bind_some, if_pos (by rw [numBytes_zero]; simp; omega)]; rfl
        · rw [TV.sm]; exact ⟨by decide, hsm⟩
      · cases h
theorem readF_back : ∀ d, TvReads d (readF d)
  | 0 => readWith_back fun _ _ h => by cases h
  | d + 1 => readWith_back fun i l h => ⟨by omega, (readF_back d).list _ i l h⟩
/-- What is got has those bytes. -/
theorem getF_back {b : List UInt8} {v : TV} (h : getF b = (v, 0)) : b = enc v ∧ (∃ k, inn 8 v = some k) ∧ v.sm := by
  unfold getF at h
  split at h
  · rename_i u hu
    simp only [Prod.mk.injEq, and_true] at h
    subst h
    obtain ⟨h1, h2, h3⟩ := readF_back 8 _ _ _ hu
    exact ⟨by rw [List.append_nil] at h1; exact h1, Option.isSome_iff_exists.mp h2, h3⟩
  · simp at h
end Go.Proofs.Ytpomfegcifpfkaa
