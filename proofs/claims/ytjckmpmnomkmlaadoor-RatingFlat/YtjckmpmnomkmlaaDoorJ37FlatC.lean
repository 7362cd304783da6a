/- RatingFlat returns true and leaves its input alone, as the given statement says; the listed library tables are tied to the program's text by the given tie. Conditions: none of our own. -/
import Derived.Test.YtjckmpmnomkmlaaDoorRows
import Derived.Test.YtjckmpmnomkmlaaDoorCards
import Derived.Test.YtjckmpmnomkmlaaDoorTie
import Derived.SevenTiedAt
import Derived.Test.YtjckmpmnomkmlaaDoorJ37Law5
import Derived.Test.YtjckmpmnomkmlaaDoorAbLaid
namespace Go.Proofs.YtjckmpmnomkmlaaDoor
open Go.Ab Go.ChangeShapes Go.WideShapes Go.ChangeAt Go.RowKit

theorem own' : ownKnob Tryd.prog.godebug = none := by kernel_rfl
theorem laidOut' : laidOutB Tryd.prog = true := by kernel_rfl

def i64Φ : List AV → Prop := fun l => ∃ n : Int, l = [.int .i64 n] ∧ -9223372036854775808 ≤ n ∧ n < 9223372036854775808
theorem rd_band39 : Rd Tryd.prog 39 fun l => ∃ (d : UInt8) (a b : Int), l = [.int .u8 d.toNat, .int .i64 a, .int .i64 b] := by
  have e : 0 + Tryd.prog.cellsOf 5 + Tryd.prog.cellsOf 3 + Tryd.prog.cellsOf 3 = Tryd.prog.cellsOf 39 := by kernel_rfl
  have h0 : Rds Tryd.prog (0 + Tryd.prog.cellsOf 5 + Tryd.prog.cellsOf 3 + Tryd.prog.cellsOf 3) [] (fun l => l = []) (Tryd.prog.cellsOf 39) := by rw [e]; exact .nil
  have h : Rd Tryd.prog 39 (fun l => ∃ a b, l = a ++ b ∧ (∃ k : UInt8, a = [.int .u8 k.toNat]) ∧ ∃ a' b', b = a' ++ b' ∧ i64Φ a' ∧ ∃ a2 b2, b' = a2 ++ b2 ∧ i64Φ a2 ∧ b2 = []) :=
    Rd_struct Tryd.underlying39 (.cons rfl (Rd_u8 Tryd.underlying5) (.cons (by kernel_rfl) (Rd_i64 Tryd.underlying3) (.cons (by kernel_rfl) (Rd_i64 Tryd.underlying3) h0)))
  exact @Rd.mono _ _ _ _ h fun l ⟨a, b, h1, ⟨k, h2⟩, c, d, h3, ⟨n, h4, _⟩, c2, d2, h5, ⟨m, h6, _⟩, h7⟩ => ⟨k, n, m, by rw [h1, h2, h3, h4, h5, h6, h7]; rfl⟩
theorem rd_price41 : Rd Tryd.prog 41 fun l => ∃ p : Ab.Tryd.S.Pr, l = p.row ∧ Ab.Tryd.S.PrOk p := by
  have e : 0 + Tryd.prog.cellsOf 39 + Tryd.prog.cellsOf 2 + Tryd.prog.cellsOf 2 = Tryd.prog.cellsOf 41 := by kernel_rfl
  have h0 : Rds Tryd.prog (0 + Tryd.prog.cellsOf 39 + Tryd.prog.cellsOf 2 + Tryd.prog.cellsOf 2) [] (fun l => l = []) (Tryd.prog.cellsOf 41) := by rw [e]; exact .nil
  have h : Rd Tryd.prog 41 (fun l => ∃ a b, l = a ++ b ∧ (∃ (d : UInt8) (x y : Int), a = [.int .u8 d.toNat, .int .i64 x, .int .i64 y]) ∧ ∃ a' b', b = a' ++ b' ∧ i64Φ a' ∧ ∃ a2 b2, b' = a2 ++ b2 ∧ i64Φ a2 ∧ b2 = []) :=
    Rd_struct Tryd.underlying41 (.cons rfl rd_band39 (.cons (by kernel_rfl) (Rd_i64 Tryd.underlying2) (.cons (by kernel_rfl) (Rd_i64 Tryd.underlying2) h0)))
  exact @Rd.mono _ _ _ _ h fun l ⟨a, b, h1, ⟨k, x, y, h2⟩, c, d, h3, ⟨n, h4, _⟩, c2, d2, h5, ⟨m, h6, _⟩, h7⟩ => ⟨⟨k.toNat, x, y, n, m⟩, by rw [h1, h2, h3, h4, h5, h6, h7]; rfl, ⟨by have := k.toNat_lt; simp; omega⟩⟩
theorem rd_prices34 : Rd Tryd.prog 34 fun l => ∃ ps : List Ab.Tryd.S.Pr, l = [.islice (Ab.Tryd.S.prRows ps)] ∧ ps.length ≤ maxLen ∧ ∀ p ∈ ps, Ab.Tryd.S.PrOk p :=
  Rd.mono (Rd_list Ab.Tryd.S.Pr.row Tryd.underlying34 (s := 5) (by kernel_rfl) (by omega) rd_price41 (fun l ⟨f, h, _⟩ => ⟨f, h⟩)) fun l ⟨fs, h1, h2, h3⟩ => ⟨fs, h1, h2, fun a ha => by
    obtain ⟨f, h4, h5⟩ := h3 a ha
    rw [Ab.Tryd.S.pr_inj h4]
    exact h5⟩
theorem rd_rate36 : Rd Tryd.prog 36 fun l => ∃ r : Ab.Tryd.S.Rt, l = r.row ∧ Ab.Tryd.S.RtOk r ∧ r.ps.length ≤ maxLen := by
  have e : 0 + Tryd.prog.cellsOf 9 + Tryd.prog.cellsOf 2 + Tryd.prog.cellsOf 3 + Tryd.prog.cellsOf 3 + Tryd.prog.cellsOf 34 = Tryd.prog.cellsOf 36 := by kernel_rfl
  have h0 : Rds Tryd.prog (0 + Tryd.prog.cellsOf 9 + Tryd.prog.cellsOf 2 + Tryd.prog.cellsOf 3 + Tryd.prog.cellsOf 3 + Tryd.prog.cellsOf 34) [] (fun l => l = []) (Tryd.prog.cellsOf 36) := by rw [e]; exact .nil
  have h : Rd Tryd.prog 36 (fun l => ∃ a b, l = a ++ b ∧ (∃ s : List UInt8, a = [.str s] ∧ s.length ≤ maxLen) ∧ ∃ a' b', b = a' ++ b' ∧ i64Φ a' ∧ ∃ a2 b2, b' = a2 ++ b2 ∧ i64Φ a2 ∧ ∃ a3 b3, b2 = a3 ++ b3 ∧ i64Φ a3 ∧ ∃ a4 b4, b3 = a4 ++ b4 ∧ (∃ ps : List Ab.Tryd.S.Pr, a4 = [.islice (Ab.Tryd.S.prRows ps)] ∧ ps.length ≤ maxLen ∧ ∀ p ∈ ps, Ab.Tryd.S.PrOk p) ∧ b4 = []) :=
    Rd_struct Tryd.underlying36 (.cons rfl (Rd_str Tryd.underlying9) (.cons (by kernel_rfl) (Rd_i64 Tryd.underlying2) (.cons (by kernel_rfl) (Rd_i64 Tryd.underlying3) (.cons (by kernel_rfl) (Rd_i64 Tryd.underlying3) (.cons (by kernel_rfl) rd_prices34 h0)))))
  exact @Rd.mono _ _ _ _ h fun l ⟨a, b, h1, ⟨s, h2, _⟩, c, d, h3, ⟨n, h4, n4⟩, c2, d2, h5, ⟨m, h6, n6⟩, c3, d3, h7, ⟨k, h8, n8⟩, c4, d4, h9, ⟨ps, h10, hm, h11⟩, h12⟩ =>
    ⟨⟨s, n, m, k, ps⟩, by rw [h1, h2, h3, h4, h5, h6, h7, h8, h9, h10, h12]; rfl, ⟨h11, n4, n6, n8⟩, hm⟩
theorem rd_rates22 : Rd Tryd.prog 22 fun l => ∃ rs : List Ab.Tryd.S.Rt, l = [.islice (Ab.Tryd.S.rtRows rs)] ∧ ∀ r ∈ rs, Ab.Tryd.S.RtOk r :=
  Rd.mono (Rd_list Ab.Tryd.S.Rt.row Tryd.underlying22 (s := 5) (by kernel_rfl) (by omega) rd_rate36 (fun l ⟨f, h, _⟩ => ⟨f, h⟩)) fun l ⟨fs, h1, h2, h3⟩ => ⟨fs, h1, fun a ha => by
    obtain ⟨f, h4, h5, _⟩ := h3 a ha
    rw [Ab.Tryd.S.rt_inj h4]
    exact h5⟩
theorem rd_tariff24 : Rd Tryd.prog 24 fun l => ∃ t : Ab.Tryd.S.Tf, l = t.row ∧ Ab.Tryd.S.TfOk t := by
  have e : 0 + Tryd.prog.cellsOf 22 + Tryd.prog.cellsOf 3 = Tryd.prog.cellsOf 24 := by kernel_rfl
  have h0 : Rds Tryd.prog (0 + Tryd.prog.cellsOf 22 + Tryd.prog.cellsOf 3) [] (fun l => l = []) (Tryd.prog.cellsOf 24) := by rw [e]; exact .nil
  have h : Rd Tryd.prog 24 (fun l => ∃ a b, l = a ++ b ∧ (∃ rs : List Ab.Tryd.S.Rt, a = [.islice (Ab.Tryd.S.rtRows rs)] ∧ ∀ r ∈ rs, Ab.Tryd.S.RtOk r) ∧ ∃ a' b', b = a' ++ b' ∧ i64Φ a' ∧ b' = []) :=
    Rd_struct Tryd.underlying24 (.cons rfl rd_rates22 (.cons (by kernel_rfl) (Rd_i64 Tryd.underlying3) h0))
  exact @Rd.mono _ _ _ _ h fun l ⟨a, b, h1, ⟨rs, h2, h3⟩, c, d, h4, ⟨n, h5, n5⟩, h6⟩ => ⟨⟨rs, n⟩, by rw [h1, h2, h4, h5, h6]; rfl, ⟨h3, n5⟩⟩

set_option maxRecDepth 100000 in
theorem law_lifted' (os : Os) (started : os.Started) (H : Type) (enc : TypeId × Value → H) :
    ReturnsInHanded {} Tryd.checked os 5 .any (fun w args => (Rows.ratingFlatSpec.pre enc Tryd.prog Tryd.f5 Rows.ratingFlatRow.domain false w args ∧ laidMetH Tryd.prog Rows.ratingFlatRow.laid w) ∧ sizedMet enc Tryd.prog Tryd.f5 (OpenSpec.ofChange Rows.ratingFlatSpec) false w args) (Rows.ratingFlatSpec.post enc Tryd.prog Tryd.f5 false true false false) := by
  refine law_read_laid (C := Tryd.checked) (tb := 4) (L := Rows.ratingFlatRow.laid) own' started (by kernel_rfl) Tryd.func5
    (ChangeSpec.witness_shaped (enc := enc) (C := Tryd.checked) (os := os) (X := fun w _ => laidMetH Tryd.prog Rows.ratingFlatRow.laid w) false (World.laidAll Tryd.prog os Rows.ratingFlatRow.laid) #[.agg #[.string ByteArray.empty, .int .i64 0, .int .i64 0, .int .i64 0, .slice none 0 0], .int .u16 0, .int .i64 0, .int .u32 0] 8 (World.laidAll_os _ _ _)
      (World.shaped_of_ZipB (by kernel_rfl) (by kernel_rfl)) (by kernel_rfl) (by kernel_rfl) (by kernel_rfl)
      (by rw [MakeChecks.laidMetH_plain _ _ _ (by kernel_rfl)]; exact laidMet_laidAll _ (by kernel_rfl) (by kernel_rfl)))
    laidOut' rfl rfl Tryd.underlying4 (params_of (by kernel_rfl)) (by intro ds h; match ds, h with | [_, _, _, _], _ => rfl)
    (.c rd_rate36 Tryd.underlying36 (.c (Rd_u16 Tryd.underlying31) Tryd.underlying31 (.c (Rd_i64 Tryd.underlying3) Tryd.underlying3 (.c (Rd_u32 Tryd.underlying43) Tryd.underlying43 .nil)))) ?_
  intro avs h
  obtain ⟨c0, t0, rfl, h0, h⟩ := h.c Tryd.underlying36
  obtain ⟨c1, t1, rfl, h1, h⟩ := h.c Tryd.underlying31
  obtain ⟨c2, t2, rfl, h2, h⟩ := h.c Tryd.underlying3
  obtain ⟨c3, t3, rfl, h3, h⟩ := h.c Tryd.underlying43
  have := h.n
  subst this
  obtain ⟨l, rfl, r, rfl, hr, hmax⟩ := h0
  obtain ⟨f, h1', h1b⟩ := h1
  cases h1'
  obtain ⟨fr, h2', _⟩ := h2
  cases h2'
  obtain ⟨sec, h3', h3b⟩ := h3
  cases h3'
  exact ⟨[], Ab.Tryd.S.law5 r hr (Nat.le_trans hmax (by decide)) f sec h1b h3b fr⟩

theorem row_holds : Rows.RatingFlatSaid :=
  OpenClaim.holds_of_wide 5 Tryd.f5 rfl rfl rfl rfl rfl rfl rfl ⟨rfl, rfl, rfl, rfl, rfl⟩ rfl rfl rfl rfl rfl (by kernel_rfl) Tryd.func5 (by kernel_rfl)
    (of_decide_eq_true (by kernel_rfl)) (by unfold Func.isWrapper; first | (rw [if_pos (by decide +kernel)]; kernel_rfl) | (rw [if_neg (by decide +kernel)]; exact ⟨rfl, rfl⟩))
    (fun os started H enc _ => law_lifted' os started H enc)

theorem law_holds : Rows.RatingFlatCardSaid :=
  Claim7.holds_tied_plain_at .later [] [.data, .pinned] true (true, "2accb2b20d4c7fb5385141f2304cea78c1f8ea3f01608da50ffc4a8eed441323") false row_holds (fun _ h => by cases h) (by kernel_rfl) (fun _ h => by cases h) ratingFlat_row_tie rfl ⟨rfl, rfl⟩ (by kernel_rfl) rfl
    (fun f fn hf hfn => by
      obtain rfl : f = 5 := Option.some.inj ((show Tryd.prog.funcNamed "dialtone/dialtonelaw37.RatingFlat" = some 5 by kernel_rfl).symm.trans hf) |>.symm
      obtain rfl : fn = Tryd.f5 := (Option.some.inj (Tryd.func5.symm.trans hfn)).symm
      exact ⟨by kernel_rfl, fun j t ht => by
        rw [Tryd.params5] at ht
        have hm : t ∈ [36, 31, 3, 43] := by simpa using Array.mem_of_getElem? ht
        have hall : ([36, 31, 3, 43].all fun u => !Tryd.prog.wantsStandIn u) = true := by kernel_rfl
        exact (show Tryd.prog.wantsStandIn t = false by simpa using List.all_eq_true.1 hall t hm)⟩)
    (by kernel_rfl)
end Go.Proofs.YtjckmpmnomkmlaaDoor
