/- Texts of fractions and of stairs: the program's functions and the reference's. -/
import Derived.Test.YtalgocopemmelaaGreatDoorVxIt
import Derived.Test.YtalgocopemmelaaGreatDoorVxS
namespace Go.Vx
open Go Go.Proofs
set_option maxRecDepth 100000
set_option linter.unusedSimpArgs false
set_option linter.unusedVariables false

/-! plain laws -/

theorem ba_app (a b : List UInt8) : (⟨a.toArray⟩ : ByteArray) ++ ⟨b.toArray⟩ = ⟨(a ++ b).toArray⟩ := by
  apply ByteArray.ext
  rw [ByteArray.data_append]
  apply Array.ext'
  simp
/-- the numeral of a number that is not negative -/
@[irreducible] noncomputable def numA (n : Int) : ByteArray := ⟨(Lib.decDigits n.toNat).toArray⟩
theorem numA_eq (n : Int) : numA n = ⟨(Lib.decDigits n.toNat).toArray⟩ := by unfold numA; rfl
theorem itoa_pos {n : Int} (h : 0 ≤ n) : itoaA n = numA n := by
  rw [itoaA_eq, numA_eq]
  unfold Lib.itoa
  rw [if_neg (by omega)]
theorem itoa_neg' {n : Int} (h : n < 0) : itoaA n = (⟨#[45]⟩ : ByteArray) ++ numA (0 - n) := by
  rw [itoaA_eq, numA_eq]
  unfold Lib.itoa
  rw [if_pos h, show (⟨#[45]⟩ : ByteArray) = ⟨([45] : List UInt8).toArray⟩ from rfl, ba_app, show (0 - n).toNat = n.natAbs by omega]
  rfl
theorem wrap8 {n : Int} (h0 : 0 ≤ n) (h1 : n < 10) : UInt8.ofNat (IntKind.u8.wrap (48 + n)).toNat = UInt8.ofNat (48 + n.toNat) := by
  have : IntKind.u8.wrap (48 + n) = 48 + n := by simp only [IntKind.wrap, IntKind.bits, IntKind.signed]; simp; omega
  rw [this]
  congr 1
  omega
theorem bytes_one (x : Int) : bytesA [x] = ⟨#[UInt8.ofNat x.toNat]⟩ := rfl
theorem num_small {n : Int} (h0 : 0 ≤ n) (h1 : n < 10) : bytesA [IntKind.u8.wrap (48 + n)] = numA n := by
  rw [bytes_one, wrap8 h0 h1, numA_eq, Lib.decDigits_one (by omega)]
theorem num_big {n : Int} (h0 : ¬ n < 10) : numA (n.tdiv 10) ++ bytesA [IntKind.u8.wrap (48 + n.tmod 10)] = numA n := by
  have e1 : n.tdiv 10 = n / 10 := Int.tdiv_eq_ediv_of_nonneg (by omega)
  have e2 : n.tmod 10 = n % 10 := Int.tmod_eq_emod_of_nonneg (by omega)
  rw [e1, e2, bytes_one, wrap8 (by omega) (by omega), numA_eq, numA_eq]
  rw [show (⟨#[UInt8.ofNat (48 + (n % 10).toNat)]⟩ : ByteArray) = ⟨([UInt8.ofNat (48 + (n % 10).toNat)] : List UInt8).toArray⟩ from rfl, ba_app]
  conv => rhs; rw [Lib.decDigits, dif_neg (by omega)]
  rw [show (n / 10).toNat = n.toNat / 10 by omega, show (n % 10).toNat = n.toNat % 10 by omega]
theorem numA_size {n : Int} (h0 : 0 ≤ n) (h1 : n ≤ 9223372036854775807) : (numA n).size ≤ 21 := by
  rw [← itoa_pos h0]; exact itoaA_size (by omega) h1

/-- the text of a fraction -/
@[irreducible] noncomputable def ratTx (a : Rt) : ByteArray := itoaA a.num ++ ⟨#[47]⟩ ++ itoaA a.den
theorem ratTx_eq (a : Rt) : ratTx a = itoaA a.num ++ ⟨#[47]⟩ ++ itoaA a.den := by unfold ratTx; rfl
theorem good_i64 {a : Rt} (h : goodRt a = true) : (-9223372036854775808 ≤ a.num ∧ a.num ≤ 9223372036854775807) ∧ -9223372036854775808 ≤ a.den ∧ a.den ≤ 9223372036854775807 := by
  have := goodRt_iff.1 h; omega
theorem ratTx_size {a : Rt} (h : goodRt a = true) : (ratTx a).size ≤ 43 := by
  have h1 := good_i64 h
  have h2 := itoaA_size h1.1.1 h1.1.2
  have h3 := itoaA_size h1.2.1 h1.2.2
  rw [ratTx_eq, ByteArray.size_append, ByteArray.size_append]
  have : (⟨#[47]⟩ : ByteArray).size = 1 := rfl
  omega
/-- the texts of the first i fractions, with blanks between them -/
noncomputable def txsF : List Rt → ByteArray
  | [] => ByteArray.empty
  | x :: r => ratTx x ++ (r.foldl (fun s y => s ++ (⟨#[32]⟩ ++ ratTx y)) ByteArray.empty)
@[irreducible] noncomputable def txs (l : List Rt) : ByteArray := joinA (l.map ratTx) ⟨#[32]⟩
theorem txs_nil : txs [] = ByteArray.empty := by unfold txs; rw [joinA_eq]; rfl
theorem txs_one (x : Rt) : txs [x] = ratTx x := by
  unfold txs
  rw [joinA_eq, List.map_cons, List.map_nil, List.map_cons, List.map_nil, Lib.join_one]
theorem txs_snoc {l : List Rt} (h : l ≠ []) (x : Rt) : txs (l ++ [x]) = txs l ++ ⟨#[32]⟩ ++ ratTx x := by
  unfold txs
  rw [joinA_eq, joinA_eq]
  cases l with
  | nil => exact (h rfl).elim
  | cons y r =>
    simp only [List.cons_append, List.map_cons, List.map_append, List.map_nil]
    rw [Lib.join_cons, Lib.join_cons]
    have e : ratTx x = ⟨((ratTx x).data.toList).toArray⟩ := by simp
    conv => rhs; rw [e]
    rw [show (⟨#[32]⟩ : ByteArray) = ⟨([32] : List UInt8).toArray⟩ from rfl, ba_app, ba_app]
    unfold Lib.joinTail
    simp
theorem txs_size {l : List Rt} (h : ∀ x ∈ l, goodRt x = true) : (txs l).size ≤ 44 * l.length := by
  have key : ∀ n (l : List Rt), l.length = n → (∀ x ∈ l, goodRt x = true) → (txs l).size ≤ 44 * n := by
    intro n
    induction n with
    | zero => intro l hl _; have : l = [] := List.eq_nil_of_length_eq_zero hl; subst this; rw [txs_nil]; simp
    | succ n ih =>
      intro l hl hg
      have hne : l ≠ [] := by intro e; rw [e] at hl; cases hl
      have hd := List.dropLast_concat_getLast hne
      have hx := ratTx_size (hg _ (List.getLast_mem hne))
      have hi := ih l.dropLast (by rw [List.length_dropLast]; omega) fun x hx => hg x (List.dropLast_subset _ hx)
      rw [← hd]
      by_cases hz : l.dropLast = []
      · rw [hz, List.nil_append, txs_one]; omega
      · rw [txs_snoc hz, ByteArray.size_append, ByteArray.size_append]
        have : (⟨#[32]⟩ : ByteArray).size = 1 := rfl
        omega
  exact key _ l rfl h

/-! numerals -/

theorem bytesA_size : ∀ (l : List Int), (bytesA l).size = l.length := by
  have key : ∀ (l : List Int) (a : ByteArray), (l.foldl (fun r n => r.push (UInt8.ofNat n.toNat)) a).size = a.size + l.length := by
    intro l
    induction l with
    | nil => intro a; simp
    | cons x l ih => intro a; rw [List.foldl_cons, ih, ByteArray.size_push, List.length_cons]; omega
  intro l
  unfold bytesA
  rw [key]
  simp


noncomputable def s_num (k : Nat) : Sig := ⟨59, [.val NI], [.val .str], fun ((n : Int), _) => ⟨[0 ≤ n, n < 10 ^ k, n ≤ 9223372036854775807], (numA n, ()), ()⟩⟩
theorem tdiv10 {n : Int} (h : 0 ≤ n) : n.tdiv 10 = n / 10 := Int.tdiv_eq_ediv_of_nonneg (by omega)
theorem tmod10 {n : Int} (h : 0 ≤ n) : n.tmod 10 = n % 10 := Int.tmod_eq_emod_of_nonneg (by omega)
theorem ok_num : ∀ k, GSpec Tryz.prog (s_num k) := by
  intro k
  induction k with
  | zero =>
    refine fn_known tab_ok fol Known.nil (by decide) Tryz.func59 ?_
    rintro ⟨(n : Int), ⟨⟩⟩ hl ⟨h1, h2, h3, _⟩
    have h2 : n < 1 := h2
    repeat' (first | with_reducible apply andAll_cons | with_reducible apply andAll_nil | (with_reducible apply Cf.mk; kernel_rfl) | apply And.intro | intro _ | exact True.intro | apply Lf.mk)
    all_goals (try simp only [decide_eq_true_eq, decide_eq_false_iff_not] at *)
    all_goals first
      | omega
      | exact num_small h1 (by omega)
      | (exfalso; have h := of_decide_eq_false (by assumption : decide (n < 10) = false); omega)
      | (exfalso; omega)
  | succ k ok_num_k =>
    refine fn_known (s := s_num (k + 1)) tab_ok fol (Known.nil.cons ok_num_k (show fnB Tryz.prog 59 = true by kernel_rfl)) (show 1 ≤ 50000 by decide) Tryz.func59 ?_
    rintro ⟨(n : Int), ⟨⟩⟩ hl ⟨h1, h2, h3, _⟩
    have h2 : n < 10 ^ k * 10 := h2
    have e1 := tdiv10 h1
    have e2 := tmod10 h1
    have hb := bytesA_size [IntKind.u8.wrap (48 + n.tmod 10)]
    have hn := numA_size (n := n.tdiv 10) (by omega) (by omega)
    repeat' (first | with_reducible apply andAll_cons | with_reducible apply andAll_nil | (with_reducible apply Cf.mk; kernel_rfl) | apply And.intro | intro _ | exact True.intro | apply Lf.mk)
    all_goals (try simp only [decide_eq_true_eq, decide_eq_false_iff_not, List.length_cons, List.length_nil] at *)
    all_goals first
      | omega
      | exact num_small h1 (by omega)
      | exact num_big (by omega)
      | (rw [e1]; omega)
      | trace_state
noncomputable def s_spec_l1Num : Sig := ⟨59, [.val NI], [.val .str], fun ((n : Int), _) => ⟨[0 ≤ n, n ≤ 9223372036854775807], (numA n, ()), ()⟩⟩
theorem ok_spec_l1Num : GSpec Tryz.prog s_spec_l1Num := (ok_num 19).imp fun x hp => ⟨⟨hp.1, Int.lt_of_le_of_lt hp.2.1 (by decide), hp.2.1, trivial⟩, rfl, rfl⟩
noncomputable def s_spec_l1Int : Sig := ⟨58, [.val NI], [.val .str], fun ((n : Int), _) => ⟨[-9223372036854775807 ≤ n, n ≤ 9223372036854775807], (itoaA n, ()), ()⟩⟩
theorem ok_spec_l1Int : GSpec Tryz.prog s_spec_l1Int := by
  refine fn_known tab_ok fol (Known.nil.cons ok_spec_l1Num (by kernel_rfl)) (by decide) Tryz.func58 ?_
  rintro ⟨(n : Int), ⟨⟩⟩ hl ⟨h1, h2, _⟩
  have hs : n < 0 → (numA (0 - n)).size ≤ 21 := fun h => numA_size (by omega) (by omega)
  have h45 : (⟨#[45]⟩ : ByteArray).size = 1 := rfl
  repeat' (first | with_reducible apply andAll_cons | with_reducible apply andAll_nil | (with_reducible apply Cf.mk; kernel_rfl) | apply And.intro | intro _ | exact True.intro | apply Lf.mk)
  all_goals (try simp only [decide_eq_true_eq, decide_eq_false_iff_not] at *)
  all_goals first
    | omega
    | (have := hs (by assumption); omega)
    | exact (itoa_neg' (by assumption)).symm
    | exact (itoa_pos (by omega)).symm
    | trace_state

/-! texts of fractions -/

theorem map_take_succ' {α β : Type} (g : α → β) (d : α) (l : List α) (i : Nat) (h : i < l.length) : (l.take i).map g ++ [g (getA d l i)] = (l.take (i + 1)).map g := by
  rw [List.take_add_one, List.map_append, List.getElem?_eq_getElem h, getA_lt _ _ _ h]; rfl


noncomputable def s_impl_ratText : Sig := ⟨56, [.val .rat], [.val .str], fun ((a : Rt), _) => ⟨[goodRt a = true], (ratTx a, ()), ()⟩⟩
noncomputable def s_spec_raText : Sig := ⟨33, [.val .rat], [.val .str], fun ((a : Rt), _) => ⟨[goodRt a = true], (ratTx a, ()), ()⟩⟩
theorem ok_impl_ratText : GSpec Tryz.prog s_impl_ratText := by
  refine fn_known tab_ok fol (Known.nil.cons ok_strconv_Itoa (by kernel_rfl)) (by decide) Tryz.func56 ?_
  rintro ⟨⟨(n : Int), (d : Int)⟩, ⟨⟩⟩ hl ⟨h1, _⟩
  have hb := good_i64 h1
  dsimp only at hb
  have s1 := itoaA_size hb.1.1 hb.1.2
  have s2 := itoaA_size hb.2.1 hb.2.2
  have h47 : (⟨#[47]⟩ : ByteArray).size = 1 := rfl
  repeat' (first | with_reducible apply andAll_cons | with_reducible apply andAll_nil | (with_reducible apply Cf.mk; kernel_rfl) | apply And.intro | intro _ | exact True.intro | apply Lf.mk)
  all_goals first
    | omega
    | (rw [ByteArray.size_append]; omega)
    | (rw [ratTx_eq]; done)
    | exact (ratTx_eq _).symm
    | trace_state
theorem ok_spec_raText : GSpec Tryz.prog s_spec_raText := by
  refine fn_known tab_ok fol ((Known.nil.cons ok_spec_l1Int (by kernel_rfl)).cons ok_spec_l1Num (by kernel_rfl)) (by decide) Tryz.func33 ?_
  rintro ⟨⟨(n : Int), (d : Int)⟩, ⟨⟩⟩ hl ⟨h1, _⟩
  have hb := good_i64 h1
  have hg := goodRt_iff.1 h1
  dsimp only at hb hg
  have s1 := itoaA_size hb.1.1 hb.1.2
  have s2 := numA_size (n := d) (by omega) hb.2.2
  have h47 : (⟨#[47]⟩ : ByteArray).size = 1 := rfl
  have e := itoa_pos (n := d) (by omega)
  repeat' (first | with_reducible apply andAll_cons | with_reducible apply andAll_nil | (with_reducible apply Cf.mk; kernel_rfl) | apply And.intro | intro _ | exact True.intro | apply Lf.mk)
  all_goals first
    | omega
    | (rw [ByteArray.size_append]; omega)
    | (rw [ratTx_eq, e]; done)
    | trace_state
noncomputable def s_impl_ratsText : Sig := ⟨32, [.list .rat], [.val .str], fun ((l : List Rt), _) => ⟨[stairOk l = true], (txs l, ()), ()⟩⟩
theorem ok_impl_ratsText : GSpec Tryz.prog s_impl_ratsText := by
  refine fn_known tab_ok fol ((Known.nil.cons ok_impl_ratText (by kernel_rfl)).cons ok_strings_Join (by kernel_rfl)) (by decide) Tryz.func32 ?_
  rintro ⟨(l : List Rt), ⟨⟩⟩ ⟨hl, _⟩ ⟨h1, _⟩
  have hlen := stair_len h1
  refine ⟨Nat, fun i => ⟨[(8, .sc (.num .i64 i)), (3, .sc (.own 7777777))], [100000], [(7777777, .row 9 .str ((l.take i).map ratTx))]⟩, fun i => i ≤ l.length, fun i => l.length - i, ⟨0, Nat.zero_le _, ?_⟩, ?_⟩
  · repeat' (first | apply And.intro | exact True.intro | exact Lf.mk (by with_reducible rfl) | apply Lf.mk)
    all_goals first | rfl | simp
  · intro i g1
    have hm : ((l.take i).map ratTx).length = i := by rw [List.length_map, List.length_take]; omega
    have hsz := txs_size (l := l) (stair_all h1)
    have ej : txs l = joinA (l.map ratTx) ⟨#[32]⟩ := by unfold txs; rfl
    repeat' (first | with_reducible apply andAll_cons | with_reducible apply andAll_nil | (with_reducible apply Cf.mk; kernel_rfl) | apply And.intro | intro _ | exact True.intro | apply Lf.mk)
    all_goals (try simp only [Bool.not_eq_true', Bool.not_eq_false', Bool.not_not, decide_eq_true_eq, decide_eq_false_iff_not, beq_iff_eq, bne_iff_ne, beq_eq_false_iff_ne, bne_eq_false_iff_eq, ne_eq, Bool.and_eq_true, Bool.and_eq_false_iff, Bool.or_eq_true, Bool.or_eq_false_iff, Int.toNat_natCast, Nat.zero_add, Int.ofNat_lt, Int.ofNat_le, List.length_cons, List.length_nil, List.drop_zero, List.take_length] at *)
    all_goals first
      | omega
      | exact stair_get h1 (by omega)
      | (show (_ + 1) * 16 ≤ 140737488355328; omega)
      | (rw [show i = l.length by omega, List.take_length, ← ej]; done)
      | (rw [show i = l.length by omega, List.take_length, ← ej]; omega)
      | (refine ⟨i + 1, by omega, by omega, ?_⟩
         repeat' (first | apply And.intro | exact True.intro | exact Lf.mk (by with_reducible rfl) | apply Lf.mk)
         all_goals first | (rw [Int.natCast_add]; rfl) | exact map_take_succ' ratTx zR l i (by omega) | rfl)
      | trace_state

/-! the text of a stair -/

noncomputable def sxRes (l : List Rt) : ByteArray × Bool := match stairOk l with
  | true => (txs l, true)
  | false => (ByteArray.empty, false)
theorem sx_t {l : List Rt} (h : stairOk l = true) : sxRes l = (txs l, true) := by unfold sxRes; rw [h]
theorem sx_f {l : List Rt} (h : stairOk l = false) : sxRes l = (ByteArray.empty, false) := by unfold sxRes; rw [h]
noncomputable def s_impl_StaircaseText : Sig := ⟨10, [.list .rat], [.val .str, .val .bool], fun ((l : List Rt), _) => ⟨[], ((sxRes l).1, (sxRes l).2, ()), ()⟩⟩
noncomputable def s_spec_StaircaseText : Sig := ⟨11, [.list .rat], [.val .str, .val .bool], fun ((l : List Rt), _) => ⟨[], ((sxRes l).1, (sxRes l).2, ()), ()⟩⟩
theorem ok_impl_StaircaseText : GSpec Tryz.prog s_impl_StaircaseText := by
  refine fn_known tab_ok fol ((Known.nil.cons ok_impl_isStair (by kernel_rfl)).cons ok_impl_ratsText (by kernel_rfl)) (by decide) Tryz.func10 ?_
  rintro ⟨(l : List Rt), ⟨⟩⟩ ⟨hl, _⟩ _
  repeat' (first | with_reducible apply andAll_cons | with_reducible apply andAll_nil | (with_reducible apply Cf.mk; kernel_rfl) | apply And.intro | intro _ | exact True.intro | apply Lf.mk)
  all_goals (try simp only [Bool.not_eq_true', Bool.not_eq_false', Bool.not_not, decide_eq_true_eq, decide_eq_false_iff_not, beq_iff_eq, bne_iff_ne, beq_eq_false_iff_ne, bne_eq_false_iff_eq, ne_eq, Bool.and_eq_true, Bool.and_eq_false_iff, Bool.or_eq_true, Bool.or_eq_false_iff, Int.toNat_natCast, Nat.zero_add, Int.ofNat_lt, Int.ofNat_le, List.length_cons, List.length_nil, List.drop_zero, List.take_length] at *)
  all_goals first
    | assumption
    | (rw [sx_t (by assumption)]; done)
    | (rw [sx_f (by assumption)]; done)
    | (rw [sx_f (by assumption)]; rfl)
    | trace_state
theorem take_snoc {l : List Rt} {i : Nat} (h : i < l.length) : l.take (i + 1) = l.take i ++ [getA zR l i] := by
  rw [List.take_add_one, List.getElem?_eq_getElem h, getA_lt _ _ _ h]; rfl
theorem txs_take0 {l : List Rt} {i : Nat} (h : i < l.length) (h0 : ¬ 0 < i) : txs (l.take i) ++ ratTx (getA zR l i) = txs (l.take (i + 1)) := by
  have : i = 0 := by omega
  subst this
  rw [take_snoc h, List.take_zero, List.nil_append, txs_one, txs_nil, ByteArray.empty_append]
theorem txs_take1 {l : List Rt} {i : Nat} (h : i < l.length) (h0 : 0 < i) : txs (l.take i) ++ ⟨#[32]⟩ ++ ratTx (getA zR l i) = txs (l.take (i + 1)) := by
  rw [take_snoc h, txs_snoc (by intro e; have := congrArg List.length e; rw [List.length_take, List.length_nil] at this; omega)]
theorem ok_spec_StaircaseText : GSpec Tryz.prog s_spec_StaircaseText := by
  refine fn_known tab_ok fol ((Known.nil.cons ok_spec_lkStair (by kernel_rfl)).cons ok_spec_raText (by kernel_rfl)) (by decide) Tryz.func11 ?_
  rintro ⟨(l : List Rt), ⟨⟩⟩ ⟨hl, _⟩ _
  repeat' (first | with_reducible apply andAll_cons | with_reducible apply andAll_nil | (with_reducible apply Cf.mk; kernel_rfl) | apply And.intro | intro _ | exact True.intro | apply Lf.mk)
  all_goals (try simp only [Bool.not_eq_true', Bool.not_eq_false', Bool.not_not, decide_eq_true_eq, decide_eq_false_iff_not, beq_iff_eq, bne_iff_ne, beq_eq_false_iff_ne, bne_eq_false_iff_eq, ne_eq, Bool.and_eq_true, Bool.and_eq_false_iff, Bool.or_eq_true, Bool.or_eq_false_iff, Int.toNat_natCast, Nat.zero_add, Int.ofNat_lt, Int.ofNat_le, List.length_cons, List.length_nil, List.drop_zero, List.take_length] at *)
  · rw [sx_f (by assumption)]; rfl
  · rw [sx_f (by assumption)]
  · rename_i h1
    have hlen := stair_len h1
    refine ⟨Nat, fun i => ⟨[(12, .sc (.num .i64 i)), (4, .sc (.str (txs (l.take i))))], [100000], []⟩, fun i => i ≤ l.length, fun i => l.length - i, ⟨0, Nat.zero_le _, ?_⟩, ?_⟩
    · repeat' (first | apply And.intro | exact True.intro | exact Lf.mk (by with_reducible rfl) | apply Lf.mk)
      all_goals first | rfl | (rw [List.take_zero, txs_nil]; done) | exact txs_nil.symm
    · intro i g1
      have hsz := txs_size (l := l.take i) (fun x hx => stair_all h1 x (List.mem_of_mem_take hx))
      rw [List.length_take] at hsz
      have hr : i < l.length → (ratTx (getA zR l i)).size ≤ 43 := fun h => ratTx_size (stair_get h1 h)
      have h32 : (⟨#[32]⟩ : ByteArray).size = 1 := rfl
      repeat' (first | with_reducible apply andAll_cons | with_reducible apply andAll_nil | (with_reducible apply Cf.mk; kernel_rfl) | apply And.intro | intro _ | exact True.intro | apply Lf.mk)
      all_goals (try simp only [Bool.not_eq_true', Bool.not_eq_false', Bool.not_not, decide_eq_true_eq, decide_eq_false_iff_not, beq_iff_eq, bne_iff_ne, beq_eq_false_iff_ne, bne_eq_false_iff_eq, ne_eq, Bool.and_eq_true, Bool.and_eq_false_iff, Bool.or_eq_true, Bool.or_eq_false_iff, Int.toNat_natCast, Nat.zero_add, Int.ofNat_lt, Int.ofNat_le, List.length_cons, List.length_nil, List.drop_zero, List.take_length] at *)
      all_goals first
        | omega
        | exact stair_get h1 (by omega)
        | (have := hr (by omega); show (txs (l.take i)).size + (ratTx (getA zR l i)).size ≤ _; omega)
        | (have := hr (by omega); show (txs (l.take i) ++ ⟨#[32]⟩).size + (ratTx (getA zR l i)).size ≤ _; rw [ByteArray.size_append]; omega)
        | (rw [sx_t h1, show i = l.length by omega, List.take_length]; done)
        | (rw [sx_t h1]; done)
        | (refine ⟨i + 1, by omega, by omega, ?_⟩
           repeat' (first | apply And.intro | exact True.intro | exact Lf.mk (by with_reducible rfl) | apply Lf.mk)
           all_goals first | (rw [Int.natCast_add]; rfl) | exact txs_take0 (by omega) (by omega) | exact txs_take1 (by omega) (by omega) | rfl)
        | trace_state
end Go.Vx
