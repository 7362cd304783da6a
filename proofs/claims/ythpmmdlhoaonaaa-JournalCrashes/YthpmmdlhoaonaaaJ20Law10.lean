/- JournalCrashes: the law's function returns true. Conditions: none. -/
import Derived.Test.YthpmmdlhoaonaaaJ20Crash
import Derived.Test.YthpmmdlhoaonaaaJ20FnW5
namespace Go.Ab.Try.S
open Go.Proofs

structure CInv (acts : List Act) (m : Nat) (σ : Env) (H : Heap) (i : Nat) (all : List Rcd) (s sy : Nat) (x c : AV) : Prop where
  hm : m = 40 - i
  h40 : i ≤ 40
  hil : i ≤ acts.length
  hl : LogI all s sy i
  hx : x = .islice (rowsU8 (jrnB all)) ∨ (x = .nils ∧ jrnB all = [])
  h0 : H[0]? = some (.rows 0 3 [[x, .int .i64 s, .int .i64 (all.length : Nat)]])
  hc : (all = [] ∧ c = .nils) ∨ ∃ r g big, c = .slice r g 0 all.length ∧ r ≠ 0 ∧ H[r]? = some (.rows g 2 (recRows big)) ∧ big.take all.length = all
  hσ : σ = [(0, .islice (actRows acts)), (3, .ptr 0 0 0 0), (4, c), (5, .int .i64 sy), (6, .int .i64 i)]
def CInvE (acts : List Act) (m : Nat) (σ : Env) (H : Heap) : Prop := ∃ i all s sy x c, CInv acts m σ H i all s sy x c

theorem crash_conv {acts : List Act} {m i s sy : Nat} {σ : Env} {H : Heap} {all : List Rcd} {x c : AV} (h : CInv acts m σ H i all s sy x c) :
    ∃ c' J, AllI all c' J ∧ Conv [] σ H [(0, .islice (actRows acts)), (3, .ptr 0 0 0 0), (4, c'), (5, .int .i64 sy), (6, .int .i64 i)] (.rows 0 3 [logV (jrnB all) s (all.length : Nat)] :: J) := by
  rw [h.hσ]
  have h0 := h.h0
  have hx := h.hx
  rcases h.hc with ⟨ha, rfl⟩ | ⟨r, g, big, rfl, hr, hb, ht⟩
  · refine ⟨.nils, [], .inl ⟨ha, rfl, rfl⟩, conv_picks (ks := [0]) (J' := [.rows 0 3 [logV (jrnB all) s (all.length : Nat)]]) rfl (by decide) (fun i k b' a1 a2 => ?_) ?_⟩
    · match i with
      | 0 => simp at a1 a2; subst a1 a2; exact ⟨_, h0, bcv_log hx⟩
      | i + 1 => simp at a1
    · simp
      exact ⟨.refl (cl_plain (actRows_plain acts)), cv_ptr rfl, .refl .nils, .refl .int, .refl .int⟩
  · refine ⟨.slice 1 g 0 all.length, _, .inr ⟨g, big, rfl, rfl, ht⟩, conv_picks (ks := [0, r]) (J' := [.rows 0 3 [logV (jrnB all) s (all.length : Nat)], .rows g 2 (recRows big)]) rfl (by simp; omega) (fun i k b' a1 a2 => ?_) ?_⟩
    · match i with
      | 0 => simp at a1 a2; subst a1 a2; exact ⟨_, h0, bcv_log hx⟩
      | 1 => simp at a1 a2; subst a1 a2; exact ⟨_, hb, bcv_plain (recRows_row _) (recRows_plain _)⟩
      | i + 2 => simp at a1
    · simp
      exact ⟨.refl (cl_plain (actRows_plain acts)), cv_ptr rfl, cv_slice (i := 1) (ks := [0, r]) rfl, .refl .int, .refl .int⟩

def AllL (all : List Rcd) (c : AV) (H : Heap) : Prop := (all = [] ∧ c = .nils) ∨ ∃ r g big, c = .slice r g 0 all.length ∧ r ≠ 0 ∧ H[r]? = some (.rows g 2 (recRows big)) ∧ big.take all.length = all

theorem AllI.len {all : List Rcd} {c : AV} {J H : Heap} (h : AllI all c J) : lenAV H 1 c = some all.length := by
  rcases h with ⟨rfl, rfl, _⟩ | ⟨g, big, rfl, _, _⟩ <;> rfl
theorem AllI.at {all : List Rcd} {c : AV} {J : Heap} (h : AllI all c J) (B : ABlk) (N : Heap) : AllL all c (B :: (J ++ N)) := by
  rcases h with ⟨h1, h2, _⟩ | ⟨g, big, rfl, rfl, ht⟩
  · exact .inl ⟨h1, h2⟩
  · exact .inr ⟨1, g, big, rfl, by decide, rfl, ht⟩
theorem AllI.elems {all : List Rcd} {c : AV} {J : Heap} (h : AllI all c J) (B : ABlk) (N : Heap) : elems (B :: (J ++ N)) c = some (recRows all) := by
  rcases h with ⟨rfl, rfl, _⟩ | ⟨g, big, rfl, rfl, ht⟩
  · rfl
  · have hle : all.length ≤ big.length := by
      have := congrArg List.length ht
      rw [List.length_take] at this; omega
    have e : (recRows big).take all.length = recRows all := by
      rw [← ht]; simp [recRows, List.map_take]
    simp [elems, Heap.rowsOf, req, recRows_len, hle, e]
/-- The first records. -/
theorem AllI.slc {all : List Rcd} {c : AV} {J : Heap} {n : Nat} (h : AllI all c J) (hn : n ≤ all.length) :
    ∃ c', (∀ B N, slcAV (B :: (J ++ N)) 2 c none (some (.int .i64 n)) none = some c') ∧ AllI (all.take n) c' J := by
  rcases h with ⟨rfl, rfl, rfl⟩ | ⟨g, big, rfl, rfl, ht⟩
  · have : n = 0 := by simpa using hn
    subst this
    exact ⟨.nils, fun B N => by simp [slcAV, req], .inl ⟨rfl, rfl, rfl⟩⟩
  · refine ⟨.slice 1 g 0 n, fun B N => by simp [slcAV, Heap.blkOf, req]; omega, .inr ⟨g, big, ?_, rfl, ?_⟩⟩
    · rw [List.length_take, Nat.min_eq_left hn]
    · rw [List.length_take, Nat.min_eq_left hn, ← ht, List.take_take, Nat.min_eq_left (by simpa using hn)]

theorem AllI.lend {all : List Rcd} {c : AV} {J : Heap} (h : AllI all c J) (B : ABlk) (N : Heap) : Lend (B :: (J ++ N)) c (.islice (recRows all)) := by
  have he := h.elems B N
  rcases h with ⟨rfl, rfl, _⟩ | ⟨g, big, rfl, _, _⟩
  · exact .nils
  · exact .slice he fun i row j c h1 h2 => (recRows_plain all row (List.mem_of_getElem? h1) c (List.mem_of_getElem? h2)).2

theorem br_sync {acts : List Act} {all : List Rcd} {c : AV} {J : Heap} {s sy i : Nat} {d : Int} {b : Bool} {Q : Ex → Env → Heap → Prop} (hJ : AllI all c J) (hlog : LogI all s sy i) (hb1 : (jrnB all).length ≤ 8560) (hb2 : all.length ≤ 40)
    (hQ : Q .normal [(0, .islice (actRows acts)), (3, .ptr 0 0 0 0), (4, c), (5, .int .i64 (all.length : Nat)), (6, .int .i64 i)] (.rows 0 3 [logV (jrnB all) ((jrnB all).length : Nat) (all.length : Nat)] :: J)) :
    wpOps (Spec Try.prog) W.m10r8 [(0, .islice (actRows acts)), (3, .ptr 0 0 0 0), (4, c), (5, .int .i64 sy), (6, .int .i64 i), (29, .int .u8 d), (59, .bool b)] (.rows 0 3 [logV (jrnB all) s (all.length : Nat)] :: J)
      (regK [0, 3, 4, 6] (seqK (Spec Try.prog) [] (.region W.m10r9 [0, 3, 4, 5, 6]) Q)) := by
  have hs := (sync29 (jrnB all) s (all.length : Nat) (Nat.le_trans hb1 (by decide))).frame (Cls.cons (cl_log _ _ _) .nil) (by rw [sync_ok hlog.s1 (by omega)]; exact cl_log _ _ _)
  rw [sync_ok hlog.s1 (by omega)] at hs
  simp [W.m10r8, W.m10r9, logV]
  refine vc_call (hs _) ?_
  simp [logV, hJ.len]
  exact hQ

theorem putU_cons {C : CallR} {σ : Env} {os : List MOper} {dst : Option Nat} {K : Env → Heap → Prop} {v : AV} {x : ABlk} {J N : Heap} : putU C os dst σ (x :: J) K v (x :: (J ++ N)) = wpU C os (σ.put dst v) (x :: (J ++ N)) K := putU_app (H := x :: J)

def crashEnd : MCode := .seq (.seq (.region W.m10r13 [0, 3, 4, 6, 7, 8, 113])
  (.cond (.tmp 113)
  (.seq (.region W.m10r14 [2])
  .ret)
  .skip))
  (.seq (.region W.m10r15 [0, 3, 4, 6, 8])
  (.seq (.region W.m10r16 [0, 3, 4, 6, 8])
  (.region W.m10r17 [0, 3, 4, 5, 6])))

theorem wpOps_g2 {C : CallR} {σ : Env} {H : Heap} {K : Env → Heap → Prop} {op : MOp} {t : Nat} {pol : Bool} {dst : Option Nat} {rs : List Nat} {os : List MOper} :
    wpOps C (⟨op, some (t, pol), dst, rs⟩ :: os) σ H K = gdV (σ.get t) pol (fun k => wpOp C σ H op k) H (putK C os dst σ K) := propext Iff.rfl

theorem crash_end {acts : List Act} {all : List Rcd} {c : AV} {B0 : ABlk} {J : Heap} {sy i m : Nat} {b2 : List UInt8} {Q : Ex → Env → Heap → Prop} (hJ : AllI all c J) (hb2 : all.length ≤ 40) (m1 : m ≤ all.length) (hsy : sy ≤ m) (hL : ∃ c1 c2 c3, B0 = .rows 0 3 [[c1, c2, c3]])
    (hQ : ∀ c' N, AllI (all.take m) c' J → Q .normal [(0, .islice (actRows acts)), (3, .ptr 0 0 0 0), (4, c'), (5, .int .i64 m), (6, .int .i64 i)] (.rows 0 3 [logV b2 (b2.length : Nat) m] :: (J ++ N))) :
    wpC (Spec Try.prog) [] crashEnd [(0, .islice (actRows acts)), (3, .ptr 0 0 0 0), (4, c), (5, .int .i64 sy), (6, .int .i64 i), (7, .ptr (J.length + 1) 0 0 0), (8, .islice (recRows (all.take m)))] (B0 :: (J ++ [.rows 0 3 [logV b2 (b2.length : Nat) m]])) Q := by
  obtain ⟨c1, c2, c3, rfl⟩ := hL
  have hlen := fun H => hJ.len (H := H)
  obtain ⟨c', hsl, hJ'⟩ := hJ.slc m1
  have hf1 : ¬ m < sy := by omega
  have hf2 : ¬ all.length < m := by omega
  have hmn : min m all.length = m := Nat.min_eq_left m1
  have hlt : (all.take m).length < 9223372036854775807 := by rw [List.length_take]; omega
  simp [-wpOps_g, wpOps_g2, crashEnd, W.m10r13, hlen, hmn, hf1, hf2, hsl, logV]
  refine vc_call ((same19 (all.take m) (all.take m) hlt).lend rfl (fun i c0 c1 a1 a2 => ?_) .bool) ?_
  · match i with
    | 0 => simp at a1 a2; subst a1 a2; exact .pure (cl_plain (recRows_plain _))
    | 1 => simp at a1 a2; subst a1 a2; exact hJ'.lend _ _
    | i + 2 => simp at a1
  simp [-wpOps_g, wpOps_g2, hmn]
  simp [W.m10r15, W.m10r16, W.m10r17, hsl, hmn]
  exact hQ c' _ hJ'

theorem br_crash {acts : List Act} {all : List Rcd} {c : AV} {J : Heap} {s sy i : Nat} {b2 : Bool} {row0 : AV} {a : Act} {Q : Ex → Env → Heap → Prop} (hi : (i : Int) < acts.length) (har : (actRows acts)[i]? = some [row0, .int .u8 a.2.1.1.toNat, .islice (rowsU8 a.2.1.2), .int .u16 a.2.2]) (ha : a.2.2 < 65536)
    (hJ : AllI all c J) (hlog : LogI all s sy i) (hb1 : (jrnB all).length ≤ 8560) (hb2 : all.length ≤ 40)
    (hQ : ∀ m c' N, m ≤ all.length → AllI (all.take m) c' J → Q .normal [(0, .islice (actRows acts)), (3, .ptr 0 0 0 0), (4, c'), (5, .int .i64 m), (6, .int .i64 i)] (.rows 0 3 [logV (jrnB (all.take m)) (endB all m : Nat) m] :: (J ++ N))) :
    wpC (Spec Try.prog) [] (.seq (.dregion W.m10r11 W.m10r12 [] [0, 3, 4, 5, 6, 7, 8]) crashEnd) [(0, .islice (actRows acts)), (3, .ptr 0 0 0 0), (4, c), (5, .int .i64 sy), (6, .int .i64 i), (65, .bool b2)] (.rows 0 3 [logV (jrnB all) s (all.length : Nat)] :: J) Q := by
  have z0 : wrp .i64 (a.2.2 : Int) = a.2.2 := wrp_i64 (by omega)
  obtain ⟨n, hn⟩ : ∃ n, n = max s (min a.2.2 (jrnB all).length) := ⟨_, rfl⟩
  have hs1 := hlog.s1
  have hsn : s ≤ n ∧ n ≤ (jrnB all).length := by omega
  have h24 := (crash24 (jrnB all) s (all.length : Nat) a.2.2 (Nat.le_trans hb1 (by decide))).frame (Cls.cons (cl_log _ _ _) (Cls.cons .int .nil)) (cl_plain (rowsU8_plain _))
  rw [crash_ok hs1 (by omega), ← hn] at h24
  obtain ⟨m, m1, m2, m3⟩ := recov_at hb2 hlog.small hsn.2
  have h21 := (recover21 ((jrnB all).take n) (by rw [List.length_take]; omega)).frame (Cls.cons (cl_plain (rowsU8_plain _)) .nil) (cl_recovV _)
  rw [m3] at h21
  have hsy : sy ≤ m := m2 sy hlog.s2 (Nat.le_trans hlog.s3 hsn.1)
  have hml : (all.take m).length = m := by rw [List.length_take]; omega
  have he := crash_end (acts := acts) (c := c) (B0 := .rows 0 3 [[.islice (rowsU8 (jrnB all)), .int .i64 s, .int .i64 (all.length : Nat)]]) (b2 := jrnB (all.take m)) (i := i) (Q := Q) hJ hb2 m1 hsy ⟨_, _, _, rfl⟩ (fun c' N h => hQ m c' N m1 h)
  simp [W.m10r11, W.m10r12, hi, iaddr_is, har, logV, z0]
  refine vc_call (h24 _) ?_
  simp
  refine vc_call (h21 _) ?_
  simp [logV, putU_cons]
  exact he

theorem app_small {all : List Rcd} {c : AV} {J N : Heap} {B : ABlk} {r : Rcd} {K : AV × Heap → Prop} (hJ : AllI all c J) (hb : all.length ≤ 40) (hB : ∃ g s rs, B = .rows g s rs)
    (hK : ∀ c' H', AllL (all ++ [r]) c' H' → H'[0]? = some B → K (c', H')) : W (appendAV (B :: (J ++ N)) 2 32 c (.islice [recV r.1 r.2])) K := by
  have h2 : ∀ row ∈ [recV r.1 r.2], row.length = 2 := by simp [recV]
  rcases hJ with ⟨rfl, rfl, rfl⟩ | ⟨g, big, rfl, rfl, ht⟩
  · refine ⟨_, append_nil rfl h2 (by simp [roomB]), hK _ _ (.inr ⟨(B :: ([] ++ N)).length, 0, [r], rfl, by simp, by simp [recRows], by simp⟩) rfl⟩
  · have hle : all.length ≤ big.length := by
      have := congrArg List.length ht
      rw [List.length_take] at this; omega
    have e : (recRows big).take all.length = recRows all := by
      rw [← ht]; simp [recRows, List.map_take]
    refine ⟨(.slice 1 (g + 1) 0 (all ++ [r]).length, B :: (.rows (g + 1) 2 (recRows (all ++ [r])) :: N)), ?_, hK _ _ (.inr ⟨1, g + 1, all ++ [r], rfl, by decide, rfl, by rw [List.take_length]⟩) rfl⟩
    simp [appendAV, elems, req, Heap.blkOf, recRows_len, hle, roomB, e]
    refine ⟨h2 _ (by simp), by omega, ?_⟩
    simp [recRows]

theorem br_app {acts : List Act} {all : List Rcd} {c : AV} {J : Heap} {s sy i : Nat} {b2 : Bool} {row0 x3 : AV} {a : Act} {Q : Ex → Env → Heap → Prop} (hi : (i : Int) < acts.length) (har : (actRows acts)[i]? = some [row0, .int .u8 a.2.1.1.toNat, .islice (rowsU8 a.2.1.2), x3])
    (hJ : AllI all c J) (hlog : LogI all s sy i) (hi2 : i < 40) (hb1 : (jrnB all).length ≤ 8560) (hb2 : all.length ≤ 40)
    (hQ0 : 200 < a.2.1.2.length → ∀ x, Q (.exit 1) [(0, .islice (actRows acts)), (3, .ptr 0 0 0 0), (4, c), (5, .int .i64 sy), (6, .int .i64 i), (37, x)] (.rows 0 3 [logV (jrnB all) s (all.length : Nat)] :: J))
    (hQ : a.2.1.2.length ≤ 200 → ∀ c' H, H[0]? = some (.rows 0 3 [logV (jrnB (all ++ [a.2.1])) s ((all ++ [a.2.1]).length : Nat)]) → AllL (all ++ [a.2.1]) c' H → Q .normal [(0, .islice (actRows acts)), (3, .ptr 0 0 0 0), (4, c'), (5, .int .i64 sy), (6, .int .i64 i)] H) :
    wpC (Spec Try.prog) [] (.seq (.seq (.region W.m10r18 [0, 3, 4, 5, 6, 37])
  (.cond (.tmp 37)
  (.exit 1)
  .skip))
  (.seq (.dregion W.m10r19 W.m10r20 [] [0, 3, 4, 5, 6, 9, 10])
  (.seq (.seq (.region W.m10r21 [0, 3, 4, 5, 6, 9, 49])
  (.cond (.tmp 49)
  (.seq (.region W.m10r22 [2])
  .ret)
  .skip))
  (.seq (.region W.m10r23 [0, 3, 4, 5, 6])
  (.region W.m10r24 [0, 3, 4, 5, 6]))))) [(0, .islice (actRows acts)), (3, .ptr 0 0 0 0), (4, c), (5, .int .i64 sy), (6, .int .i64 i), (65, .bool b2)] (.rows 0 3 [logV (jrnB all) s (all.length : Nat)] :: J) Q := by
  simp [W.m10r18, hi, iaddr_is, har]
  refine ⟨fun h => hQ0 (by omega) _, fun h => ?_⟩
  have hs1 := hlog.s1
  have h25 := (append25 (jrnB all) s (all.length : Nat) a.2.1.1 a.2.1.2 (by omega) (by omega)).frame (Cls.cons (cl_log _ _ _) (Cls.cons (Cls.cons .int (Cls.cons (cl_plain (rowsU8_plain _)) .nil)).agg .nil)) (cl_app1 _ _ _ _ _)
  rw [app_ok2 hs1 (by omega) (by omega)] at h25
  have ej : jrnB all ++ encB all.length a.2.1.1 a.2.1.2 = jrnB (all ++ [a.2.1]) := by
    unfold jrnB; rw [jrnF_app, Nat.zero_add]
  rw [ej] at h25
  simp [W.m10r19, W.m10r20, hi, iaddr_is, har, logV]
  refine vc_call (h25 _) ?_
  simp [logV, putU_cons, W.m10r21, W.m10r23, W.m10r24, hi, iaddr_is, har]
  refine app_small (r := a.2.1) hJ hb2 ⟨_, _, _, rfl⟩ fun c' H' h1 h2 => ?_
  simp
  refine hQ (by omega) c' H' ?_ h1
  rw [h2]
  simp [logV]

theorem br_end {all : List Rcd} {c : AV} {J : Heap} {s : Nat} {σ : Env} (hJ : AllI all c J) (hb1 : (jrnB all).length ≤ 8560) (hb2 : all.length ≤ 40) (hd : ∀ r ∈ all, r.2.length ≤ 200) (g3 : σ.get 3 = .ptr 0 0 0 0) (g4 : σ.get 4 = c) :
    wpC (Spec Try.prog) [] (.seq (.region W.m10r27 [3, 4, 11, 12, 13]) (.seq (.region W.m10r28 [2]) .ret)) σ (.rows 0 3 [logV (jrnB all) s (all.length : Nat)] :: J) (fun e σ H1 => (e = Ex.normal ∨ e = Ex.ret) ∧ Fin [] (σ.get 2) H1 (AV.bool true) []) := by
  have h18 := (scan18 (jrnB all) (by omega)).frame (Cls.cons (cl_plain (rowsU8_plain _)) .nil) (cl_scanV _)
  rw [scan_all hb2 hd] at h18
  simp [W.m10r27, g3, g4, logV]
  refine vc_call (h18 _) ?_
  simp [W.m10r28, g3, g4]
  have hl := hJ.lend (.rows 0 3 [[.islice (rowsU8 (jrnB all)), .int .i64 s, .int .i64 (all.length : Nat)]]) []
  rw [List.append_nil] at hl
  refine vc_call ((same19 all all (by omega)).lend rfl (fun i c0 c1 a1 a2 => ?_) .bool) ?_
  · match i with
    | 0 => simp at a1 a2; subst a1 a2; exact hl
    | 1 => simp at a1 a2; subst a1 a2; exact .pure (cl_plain (recRows_plain _))
    | i + 2 => simp at a1
  simp
  refine vc_call (lives11 _) ?_
  simp
  exact fin_bool rfl

theorem to_seqd {C : CallR} {base H : Heap} {u t : List MOper} {fl : List (List MOper)} {k : List Nat} {b : MCode} {σ : Env} {Q : Ex → Env → Heap → Prop} (h : wpC C base (.seq (.dregion u t fl k) b) σ H Q) : wpU C u σ H (tailK C t fl k (seqK C base b Q)) := by
  rw [wpC_seq, wpC_dregion] at h; exact h
theorem to_seqs {C : CallR} {base H : Heap} {u : List MOper} {k : List Nat} {a b : MCode} {σ : Env} {Q : Ex → Env → Heap → Prop} (h : wpC C base (.seq (.seq (.region u k) a) b) σ H Q) : wpOps C u σ H (regK k (seqK C base a (seqK C base b Q))) := by
  rw [wpC_seq, wpC_seq, wpC_region] at h; exact h

theorem cinv_of {acts : List Act} {H : Heap} {i s sy : Nat} {all : List Rcd} {c : AV} (hi : i < 40) (hil : i < acts.length) (hl : LogI all s sy (i + 1)) (h0 : H[0]? = some (.rows 0 3 [logV (jrnB all) s (all.length : Nat)])) (hc : AllL all c H) :
    ∃ m, m < 40 - i ∧ CInvE acts m [(0, .islice (actRows acts)), (3, .ptr 0 0 0 0), (4, c), (5, .int .i64 sy), (6, .int .i64 ((i : Int) + 1))] H :=
  ⟨40 - (i + 1), by omega, i + 1, all, s, sy, _, c, rfl, hi, hil, hl, .inl rfl, h0, hc, rfl⟩

theorem law10 (acts : List Act) (hl : acts.length ≤ 9223372036854775807) (hk : ∀ a ∈ acts, a.2.2 < 65536) : ∃ H', Spec Try.prog 10 [.islice (actRows acts)] [] (.bool true) H' := by
  refine ⟨[], spec_of_wp (C := Spec Try.prog) (fun _ _ _ _ _ h => h) mixed W.m10_ok (show 1 ≤ _ by decide) ?_⟩
  unfold W.m10
  simp [W.m10r0, W.m10r1, W.m10r2, W.m10r3, W.m10r4, envOf]
  refine vc_loop (CInvE acts) 40 ⟨0, [], 0, 0, .nils, .nils, rfl, by omega, by omega, ⟨by simp, by simp, by simp, by simp, by simp [endB, jrnB, jrnF]⟩, .inr ⟨rfl, rfl⟩, rfl, .inl ⟨rfl, rfl⟩, rfl⟩ ?_
  rintro m σ H ⟨i, all, s, sy, x, c, h⟩
  obtain ⟨c', J, hJ, hconv⟩ := crash_conv h
  obtain ⟨rfl, h40, hil, hlog, _, _, _, _⟩ := h
  obtain ⟨hb1, hb2⟩ := hlog.bytes h40
  simp [W.m10l26]
  refine vc_conv hconv ?_
  clear hconv
  by_cases hi : i < acts.length ∧ i < 40
  · obtain ⟨hi1, hi2⟩ := hi
    have hi3 : (i : Int) < acts.length := by omega
    have hi4 : (i : Int) < 40 := by omega
    have har : (actRows acts)[i]? = some [.int .u8 acts[i].1.toNat, .int .u8 acts[i].2.1.1.toNat, .islice (rowsU8 acts[i].2.1.2), .int .u16 acts[i].2.2] := by simp [actRows, hi1]
    have z1 : wrp .i64 ((i : Int) + 1) = i + 1 := wrp_i64 (by omega)
    simp [W.m10r5, W.m10r6, W.m10r7, hi3, hi4, iaddr_is, har]
    refine ⟨fun h0 => ?_, fun h0 => ?_⟩
    · refine br_sync hJ hlog hb1 hb2 ?_
      simp [W.m10r25, z1]
      exact cinv_of hi2 hi1 hlog.sync rfl (by simpa using hJ.at _ [])
    · simp [W.m10r10]
      refine ⟨fun h1 => ?_, fun h1 => ?_⟩
      · refine to_seqd (br_crash (acts := acts) (all := all) (c := c') (J := J) (s := s) (sy := sy) (i := i) (a := acts[i]) (row0 := .int .u8 acts[i].1.toNat) hi3 har (hk _ (List.getElem_mem hi1)) hJ hlog hb1 hb2 fun m c1 N hm h2 => ?_)
        simp [W.m10r25, z1]
        have e : (all.take m).length = m := by rw [List.length_take]; omega
        exact cinv_of hi2 hi1 (hlog.cut hm) (by rw [e]; rfl) (h2.at _ N)
      · refine to_seqs (br_app (acts := acts) (all := all) (c := c') (J := J) (s := s) (sy := sy) (i := i) (a := acts[i]) (row0 := .int .u8 acts[i].1.toNat) (x3 := .int .u16 acts[i].2.2) hi3 har hJ hlog hi2 hb1 hb2 (fun h2 x => ?_) (fun h2 c1 H1 h3 h4 => ?_))
        · simp [W.m10r25, z1]
          exact cinv_of hi2 hi1 hlog.next rfl (by simpa using hJ.at _ [])
        · simp [W.m10r25, z1]
          exact cinv_of hi2 hi1 (hlog.app h2) h3 h4
  · simp +contextual [W.m10r5]
    refine ⟨fun h1 h2 => absurd ⟨h1, by omega⟩ hi, fun _ => ?_⟩
    have he := br_end (s := s) (σ := [(0, .islice (actRows acts)), (3, .ptr 0 0 0 0), (4, c'), (5, .int .i64 sy), (6, .int .i64 i), (21, .bool false)]) hJ hb1 hb2 hlog.small rfl rfl
    rw [wpC_seq, wpC_region] at he
    exact he
end Go.Ab.Try.S
