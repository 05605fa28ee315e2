import Derived.Test.YtknfjmongeddgaaPlBack
set_option linter.unusedVariables false
set_option linter.unusedSimpArgs false
namespace Go.Abs.GenA
open Go.Abs Go.Lib

def U8 (xs : List Int) : Prop := ∀ b ∈ xs, 0 ≤ b ∧ b < 256
theorem U8.app {xs ys : List Int} (h : U8 xs) (k : U8 ys) : U8 (xs ++ ys) := fun b hb => by
  rcases List.mem_append.mp hb with hb | hb
  · exact h b hb
  · exact k b hb
theorem bytesI_u8 (s : ByteArray) : U8 (bytesI s) := by
  intro b hb
  simp only [bytesI, List.mem_map] at hb
  obtain ⟨c, _, rfl⟩ := hb
  have := c.toNat_lt
  omega
theorem of_bytes (s : ByteArray) : ofNums (bytesI s) = s := by
  apply ByteArray.ext
  apply Array.ext'
  simp only [ofNums, bytesI, List.map_map]
  conv => rhs; rw [← List.map_id s.data.toList]
  apply List.map_congr_left
  intro a _
  simp
theorem bytes_of {xs : List Int} (h : U8 xs) : bytesI (ofNums xs) = xs := by
  simp only [bytesI, ofNums, List.map_map]
  conv => rhs; rw [← List.map_id xs]
  apply List.map_congr_left
  intro a ha
  have := h a ha
  simp
  omega
theorem ofNums_size (xs : List Int) : (ofNums xs).size = xs.length := by
  show (ofNums xs).data.size = _
  simp [ofNums]

theorem int_eq {k : Nat} {bs : List Int} {a1 a2 : Int} (hk : 20 ≤ k) (hb : U8 bs) : wire_Reader_Int.f k ⟨true, bs, 0⟩ a1 a2 = some (fin a1 a2 (dc 0 0 bs)) := by
  rw [wire_Reader_Int.f]
  exact read_eq bs 0 0 k a1 a2 hb (by omega) (by omega) (by simp) (by omega)
theorem byte_err (k : Nat) {e : Int} (h : e ≠ 0) (bs : List Int) : wire_Reader_byte.f k ⟨true, bs, e⟩ = some (0, false, ⟨true, bs, e⟩) := by
  rw [wire_Reader_byte.f, wire_Reader_none.f]
  simp [h]
theorem int_err {k : Nat} {e : Int} (h : e ≠ 0) (bs : List Int) (a1 a2 : Int) (hk : 1 ≤ k) : wire_Reader_Int.f k ⟨true, bs, e⟩ a1 a2 = some (0, ⟨true, bs, e⟩) := by
  obtain ⟨k, rfl⟩ : ∃ m, k = m + 1 := ⟨k - 1, by omega⟩
  rw [wire_Reader_Int.f, wire_Reader_Int.l0, byte_err _ h]; rfl
theorem text_bad {k : Nat} {R R' : wire_Reader} {n e : Int} {bs : List Int} {most : Int} (h : wire_Reader_Int.f k R 0 most = some (n, ⟨true, bs, e⟩)) (he : e ≠ 0) : wire_Reader_Text.f k R most = some ((⟨#[]⟩ : ByteArray), ⟨true, bs, e⟩) := by
  rw [wire_Reader_Text.f, h, Option.bind_some, wire_Reader_none.f]
  simp [he]
theorem text_good {k : Nat} {R : wire_Reader} {n : Int} {bs : List Int} {most : Int} (h : wire_Reader_Int.f k R 0 most = some (n, ⟨true, bs, 0⟩)) (h0 : 0 ≤ n) (h1 : n ≤ bs.length) :
    wire_Reader_Text.f k R most = some (ofNums (bs.take n.toNat), ⟨true, bs.drop n.toNat, 0⟩) := by
  rw [wire_Reader_Text.f, h, Option.bind_some, wire_Reader_none.f]
  have e1 : sub bs 0 n = bs.take n.toNat := by simp [sub]
  have e2 : sub bs n (bs.length : Int) = bs.drop n.toNat := by
    unfold sub; rw [List.take_of_length_le]; simp
  simp only [Option.bind_some, Bool.not_true, Bool.false_eq_true, if_false]
  rw [if_neg (by decide), if_neg (by simp; omega), if_pos (by simp; omega), if_pos (by simp; omega), e1, e2]
theorem text_short {k : Nat} {R : wire_Reader} {n : Int} {bs : List Int} {most : Int} (h : wire_Reader_Int.f k R 0 most = some (n, ⟨true, bs, 0⟩)) (h1 : n > bs.length) :
    wire_Reader_Text.f k R most = some ((⟨#[]⟩ : ByteArray), ⟨true, [], 3⟩) := by
  rw [wire_Reader_Text.f, h, Option.bind_some, wire_Reader_none.f]
  simp only [Option.bind_some, Bool.not_true, Bool.false_eq_true, if_false]
  rw [if_neg (by decide), if_pos (by simp; omega), fail_eq]; rfl
theorem flag_eq (k : Nat) (b : Bool) (bs : List Int) : wire_Reader_Flag.f k ⟨true, fl b :: bs, 0⟩ = some (b, ⟨true, bs, 0⟩) := by
  rw [wire_Reader_Flag.f, byte_cons, Option.bind_some]
  cases b <;> rfl
theorem err_eq (k : Nat) (bs : List Int) (e : Int) : wire_Reader_Err.f k ⟨true, bs, e⟩ = some (e, ⟨true, bs, e⟩) := rfl
theorem left_eq (k : Nat) (bs : List Int) (e : Int) : wire_Reader_Left.f k ⟨true, bs, e⟩ = some ((bs.length : Int), ⟨true, bs, e⟩) := rfl
theorem open_eq {k : Nat} {a : List Int} (h : Lim a) : wire_Open.f k a = some ⟨true, a, 0⟩ := by
  rw [wire_Open.f, clone_eq h]; rfl

theorem dc_zz {x : Int} (h : I64 x) (rest : List Int) : dc 0 0 (vi 10 (zz x) ++ rest) = .ok (zz x) rest := by
  have h1 := zz_lt h
  have e : (2 : Int) * 128 ^ 9 = 18446744073709551616 := by decide
  rw [dc_vi 9 0 0 (zz x) rest rfl h1.1 (by omega) (by omega)]
  simp
theorem int_back {k : Nat} {x a1 a2 : Int} {rest : List Int} (hk : 20 ≤ k) (h : I64 x) (h1 : a1 ≤ x) (h2 : x ≤ a2) (hr : U8 rest) : wire_Reader_Int.f k ⟨true, vi 10 (zz x) ++ rest, 0⟩ a1 a2 = some (x, ⟨true, rest, 0⟩) := by
  rw [int_eq hk (U8.app (fun b hb => vi_u8 10 _ (zz_lt h).1 b hb) hr), dc_zz h]
  simp only [fin, unzz_zz]
  rw [if_neg (by omega)]

theorem wireBack_true (n : Int) (s : ByteArray) (b : Bool) (a : List Int) (hn : I64 n) (hs : s.size ≤ 4194304) (ha : Lim a) (hu : U8 a) (hla : a.length ≤ 2097152) : dossierlaw02_WireBack.f 40 n s b a = some true := by
  have hl : a.length ≤ 4194304 := ha
  rw [dossierlaw02_WireBack.f]
  generalize hm : (if 3000 < (s.size : Int) then (3000 : Int) else (s.size : Int)) = m
  have hm1 : 0 ≤ m ∧ m ≤ s.size ∧ m ≤ 3000 := by rw [← hm]; split <;> omega
  generalize ht : s.extract 0 m.toNat = t
  have hts : (t.size : Int) = m := by
    rw [← ht, ByteArray.size_extract]; omega
  have hv0 := vi_len 10 (zz n)
  have hv1 := vi_len 10 (zz t.size)
  have L0 : Lim ([] : List Int) := by simp [Lim]
  have L1 : Lim (([] : List Int) ++ vi 10 (zz n)) := by unfold Lim; simp; omega
  have L2 : Lim (([] : List Int) ++ vi 10 (zz n) ++ vi 10 (zz t.size) ++ bytesI t) := by
    unfold Lim; simp [bytesI_len]; omega
  have L3 : Lim (([] : List Int) ++ vi 10 (zz n) ++ vi 10 (zz t.size) ++ bytesI t ++ [fl b] ++ a) := by
    unfold Lim; simp [bytesI_len]; omega
  have It : I64 t.size := by unfold I64; omega
  have Uf : U8 [fl b] := by intro c hc; simp at hc; subst hc; cases b <;> simp [fl]
  rw [if_pos (decide_eq_true ⟨by omega, hm1.1, hm1.2.1⟩), wire_int (by decide) L0 hn, Option.bind_some, wire_text (by decide) L1 (by omega), Option.bind_some, wire_flag L2, Option.bind_some,
    if_pos (by simp [bytesI_len]; omega), open_eq L3, Option.bind_some]
  have e1 : ([] : List Int) ++ vi 10 (zz n) ++ vi 10 (zz t.size) ++ bytesI t ++ [fl b] ++ a = vi 10 (zz n) ++ (vi 10 (zz t.size) ++ (bytesI t ++ (fl b :: a))) := by simp
  rw [e1]
  have Uz : U8 (vi 10 (zz t.size)) := fun c hc => vi_u8 10 _ (zz_lt It).1 c hc
  have Ur0 : U8 (bytesI t ++ (fl b :: a)) := (bytesI_u8 t).app (show U8 ([fl b] ++ a) from Uf.app hu)
  have Ur : U8 (vi 10 (zz t.size) ++ (bytesI t ++ (fl b :: a))) := Uz.app Ur0
  have hi : wire_Reader_Int.f 40 ⟨true, vi 10 (zz n) ++ (vi 10 (zz t.size) ++ (bytesI t ++ (fl b :: a))), 0⟩ (-9223372036854775808) 9223372036854775807 = some (n, ⟨true, vi 10 (zz t.size) ++ (bytesI t ++ (fl b :: a)), 0⟩) :=
    int_back (by decide) hn hn.1 hn.2 Ur
  rw [hi, Option.bind_some, if_neg (by simp)]
  have htx : wire_Reader_Text.f 40 ⟨true, vi 10 (zz t.size) ++ (bytesI t ++ (fl b :: a)), 0⟩ 3000 = some (t, ⟨true, fl b :: a, 0⟩) := by
    rw [text_good (int_back (by decide) It (by omega) (by omega) Ur0) (by omega) (by simp [bytesI_len]; omega)]
    have e2 : (bytesI t ++ (fl b :: a)).take ((t.size : Int)).toNat = bytesI t := by
      rw [List.take_append_of_le_length (by simp [bytesI_len]), List.take_of_length_le (by simp [bytesI_len])]
    have e3 : (bytesI t ++ (fl b :: a)).drop ((t.size : Int)).toNat = fl b :: a := by
      rw [List.drop_append_of_le_length (by simp [bytesI_len]), List.drop_of_length_le (by simp [bytesI_len])]; rfl
    rw [e2, e3, of_bytes]
  rw [htx, Option.bind_some, if_pos (by simp), flag_eq, Option.bind_some, if_pos (by simp), err_eq, Option.bind_some, if_neg (by simp), left_eq, Option.bind_some, if_neg (by simp), open_eq ha, Option.bind_some,
    int_eq (by decide) hu, Option.bind_some]
  have aw : dossierlaw02_awake.f 40 = some true := awake_eq (by decide)
  -- what is read of any bytes
  have bad : ∀ e : Int, e ≠ 0 → ∀ q : ByteArray, (wire_Reader_Err.f 40 (q, (⟨true, [], e⟩ : wire_Reader)).2).bind (fun r20 => if (r20.1 != 0) = true then ((dossierlaw02_awake.f 40).bind fun r22 => some r22) else (none : Option Bool)) = some true := by
    intro e he q
    rw [err_eq, Option.bind_some, if_pos (by simpa using he), aw]; rfl
  cases hd : dc 0 0 a with
  | err e =>
    have he : e ≠ 0 := by
      intro h0
      subst h0
      clear bad
      have key : ∀ (bs : List Int) (i : Nat) (u : Int), dc i u bs ≠ .err 0 := by
        intro bs
        induction bs with
        | nil => intro i u h; simp [dc] at h
        | cons x bs ih =>
          intro i u h
          rw [dc] at h
          split at h
          · simp at h
          · split at h
            · cases h
            · exact ih _ _ h
      exact key _ _ _ hd
    simp only [fin]
    rw [text_bad (R' := ⟨true, [], e⟩) (int_err he [] 0 1048576 (by decide)) he, Option.bind_some, err_eq, Option.bind_some, if_pos (by simpa using he), aw]; rfl
  | ok v rest =>
    obtain ⟨v', hva, rfl, hv0', -, hv1'⟩ := vi_dc a 9 0 0 v rest hu rfl hd
    have e : (2 : Int) * 128 ^ 9 = 18446744073709551616 := by decide
    have ev : 0 + v' * 2 ^ (7 * 0) = v' := by simp
    rw [ev] at hd ⊢
    have Iv := unzz_I64 hv0' (by omega)
    have Urest : U8 rest := fun c hc => hu c (by rw [hva]; simp [hc])
    have hlr : rest.length ≤ a.length := by rw [hva]; simp
    simp only [fin]
    rw [if_neg (by unfold I64 at Iv; omega)]
    cases hd2 : dc 0 0 rest with
    | err e =>
      have he : e ≠ 0 := by
        intro h0
        subst h0
        have key : ∀ (bs : List Int) (i : Nat) (u : Int), dc i u bs ≠ .err 0 := by
          intro bs
          induction bs with
          | nil => intro i u h; simp [dc] at h
          | cons x bs ih =>
            intro i u h
            rw [dc] at h
            split at h
            · simp at h
            · split at h
              · cases h
              · exact ih _ _ h
        exact key _ _ _ hd2
      have h1 : wire_Reader_Int.f 40 ⟨true, rest, 0⟩ 0 1048576 = some (0, ⟨true, [], e⟩) := by rw [int_eq (by decide) Urest, hd2]; rfl
      rw [text_bad (R' := ⟨true, [], e⟩) h1 he, Option.bind_some, err_eq, Option.bind_some, if_pos (by simpa using he), aw]; rfl
    | ok w rest2 =>
      obtain ⟨w', hwa, rfl, hw0', -, hw1'⟩ := vi_dc rest 9 0 0 w rest2 Urest rfl hd2
      have ew : 0 + w' * 2 ^ (7 * 0) = w' := by simp
      rw [ew] at hd2
      have Iw := unzz_I64 hw0' (by omega)
      have Urest2 : U8 rest2 := fun c hc => Urest c (by rw [hwa]; simp [hc])
      have h1 : wire_Reader_Int.f 40 ⟨true, rest, 0⟩ 0 1048576 = some (fin 0 1048576 (.ok w' rest2)) := by rw [int_eq (by decide) Urest, hd2]
      simp only [fin] at h1
      by_cases hr : unzz w' < 0 ∨ unzz w' > 1048576
      · rw [if_pos hr] at h1
        rw [text_bad (R' := ⟨true, [], 4⟩) h1 (by decide), Option.bind_some, err_eq, Option.bind_some, if_pos (by decide), aw]; rfl
      · rw [if_neg hr] at h1
        by_cases hsh : unzz w' > rest2.length
        · rw [text_short h1 hsh, Option.bind_some, err_eq, Option.bind_some, if_pos (by decide), aw]; rfl
        · have hlr2 : rest2.length ≤ rest.length := by rw [hwa]; simp
          rw [text_good h1 (by omega) (by omega), Option.bind_some, err_eq, Option.bind_some, if_neg (by simp), left_eq, Option.bind_some, if_neg (by simp; omega), wire_int (by decide) L0 Iv, Option.bind_some, zz_unzz hv0']
          have hz : ((ofNums (rest2.take (unzz w').toNat)).size : Int) = unzz w' := by rw [ofNums_size]; simp; omega
          have hv10 := vi_len 10 v'
          rw [wire_text (a := ([] : List Int) ++ vi 10 v') (s := ofNums (rest2.take (unzz w').toNat)) (by decide) (by unfold Lim; simp; omega) (by omega), Option.bind_some, left_eq, Option.bind_some, hz, zz_unzz hw0', bytes_of (fun c hc => Urest2 c (List.mem_of_mem_take hc))]
          have hla : (a.length : Int) = (vi 10 v').length + ((vi 10 w').length + rest2.length) := by rw [hva, hwa]; simp
          have hdl : ((rest2.drop (unzz w').toNat).length : Int) = rest2.length - unzz w' := by simp; omega
          have hwr : IntKind.i64.wrap ((a.length : Int) - ((rest2.drop (unzz w').toNat).length : Int)) = (vi 10 v').length + ((vi 10 w').length + unzz w') := by
            rw [wrap_i64 (by omega) (by omega)]; omega
          rw [hwr, if_pos (decide_eq_true (by omega))]
          have hsub : sub a 0 ((vi 10 v').length + ((vi 10 w').length + unzz w')) = ([] : List Int) ++ vi 10 v' ++ vi 10 w' ++ rest2.take (unzz w').toNat := by
            have hva' : a = vi 10 v' ++ (vi 10 w' ++ rest2) := by rw [hva, hwa]
            rw [hva']
            unfold sub
            have : ((((vi 10 v').length : Int) + ((vi 10 w').length + unzz w')).toNat - (0 : Int).toNat) = (vi 10 v').length + ((vi 10 w').length + (unzz w').toNat) := by simp; omega
            rw [this, show (0 : Int).toNat = 0 from rfl, List.drop_zero, List.take_length_add_append, List.take_length_add_append]
            simp
          rw [hsub, eq_self, Option.bind_some, if_pos rfl, aw]; rfl
end Go.Abs.GenA
