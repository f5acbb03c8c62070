/- What the lesser machine says of instructions holds of the model. -/
import Derived.Test.YtnedikjioliodaaGreatDoorMb1
set_option linter.all false
namespace Go.AM
open Go
variable [Env]
section
variable {P : Program} {r : Rho} {w : World} {t : TM} {ρ : Operand → Value}

/-! ### slices of texts and of arrays -/
def OptR (r : Rho) (x : Option AV) (v : Option Value) : Prop := match x, v with | none, none => True | some a, some b => VR r a b | _, _ => False
theorem evOo_opt (hE : EnvR r t ρ) (x : Option Operand) : OptR r (evOo t (x.map opd)) (x.map ρ) := by
  cases x with
  | none => trivial
  | some o => exact hE o
theorem bound_some {a : AV} {v : Value} (hx : VR r a v) {dflt top n : Nat} (h : bound (some a) dflt top = some n) (top' : Nat) (ht : top ≤ top') (code : BoundsCode) :
    (Instr.sliceBound v top' code).run P w = .ok n w ∧ n ≤ top := by
  unfold bound at h
  split at h
  · rename_i e; simp at e
  · rename_i k i e
    injection e with e; subst e
    obtain ⟨hb, h⟩ := bif_some h
    injection h with h; subst h
    have hb := ble_iff.1 hb
    have := hx.inv_int; subst this
    refine ⟨?_, hb⟩
    unfold Instr.sliceBound
    simp only [Sem.run_bind, run_asIntOf, Result.andThen_ok]
    have htop : i ≤ top' := Nat.le_trans hb ht
    have : (0 : Int) ≤ Int.ofNat i ∧ Int.ofNat i ≤ (top' : Int) := ⟨Int.natCast_nonneg i, Int.ofNat_le.2 htop⟩
    rw [if_pos this]
    rfl
  · simp at h
theorem bound_none {dflt top n : Nat} (h : bound none dflt top = some n) : n = dflt := by
  simp [bound] at h; exact h.symm

theorem bounds_ok {lo hi mx : Option AV} {vl vh vm : Option Value} (hl : OptR r lo vl) (hh : OptR r hi vh) (hm : OptR r mx vm) {len cap cap' l h m : Nat}
    (e : bound3 lo hi mx len cap = some (l, h, m)) (hcap : cap ≤ cap') (isSl : Bool) :
    (Instr.sliceBounds isSl len cap' vl vh vm).run P w = .ok (l, h, if mx.isNone then cap' else m) w ∧ l ≤ h ∧ (h ≤ m ∨ h = len) ∧ m ≤ cap ∧ (mx = none → m = cap) ∧ (mx.isSome → h ≤ m) := by
  unfold bound3 at e
  cases hg : (and (!isNone mx) (isNone hi)) with
  | true => rw [hg] at e; simp at e
  | false =>
  rw [hg] at e
  simp only [cond_false] at e
  split at e
  · simp at e
  rename_i m0 hm0
  split at e
  · simp at e
  rename_i h0 hh0
  split at e
  · simp at e
  rename_i l0 hl0
  injection e with e
  injection e with e1 e2; injection e2 with e2 e3
  subst e1; subst e2; subst e3
  -- the low bound
  have low : l0 ≤ h0 ∧ ((vl = none ∧ l0 = 0) ∨ ∃ v, vl = some v ∧ ∀ code : BoundsCode, (Instr.sliceBound v h0 code).run P w = .ok l0 w) := by
    cases lo with
    | none => cases vl with
      | none => have := bound_none hl0; subst this; exact ⟨Nat.zero_le _, .inl ⟨rfl, rfl⟩⟩
      | some v => exact hl.elim
    | some a => cases vl with
      | none => exact hl.elim
      | some v => exact ⟨(bound_some (P := P) (w := w) hl hl0 h0 (Nat.le_refl _) .sliceB).2, .inr ⟨v, rfl, fun code => (bound_some hl hl0 h0 (Nat.le_refl _) code).1⟩⟩
  obtain ⟨hlow, low⟩ := low
  unfold Instr.sliceBounds
  cases mx with
  | none =>
    cases vm with
    | some v => exact hm.elim
    | none =>
    have hmm := bound_none hm0; subst hmm
    cases hi with
    | none => cases vh with
      | some v => exact hh.elim
      | none =>
        have := bound_none hh0; subst this
        refine ⟨?_, hlow, .inr rfl, Nat.le_refl _, fun _ => rfl, by simp⟩
        simp only [Sem.run_bind, Sem.run_pure, Result.andThen_ok, Option.isSome_none, Bool.false_eq_true, if_false]
        rcases low with ⟨rfl, rfl⟩ | ⟨v, rfl, hv⟩
        · rfl
        · simp only [Sem.run_bind, hv, Result.andThen_ok]; rfl
    | some a => cases vh with
      | none => exact hh.elim
      | some v =>
        have b := fun code => bound_some (P := P) (w := w) hh hh0 cap' hcap code
        refine ⟨?_, hlow, .inl (b .sliceB).2, Nat.le_refl _, fun _ => rfl, by simp⟩
        simp only [Sem.run_bind, Sem.run_pure, Result.andThen_ok, Option.isSome_none, Bool.false_eq_true, if_false]
        rw [(b _).1]; simp only [Result.andThen_ok]
        rcases low with ⟨rfl, rfl⟩ | ⟨v, rfl, hv⟩
        · rfl
        · simp only [Sem.run_bind, hv, Result.andThen_ok]; rfl
  | some mv =>
    cases vm with
    | none => exact hm.elim
    | some vmv =>
    have bm := fun code => bound_some (P := P) (w := w) hm hm0 cap' hcap code
    cases hi with
    | none => simp [isNone] at hg
    | some a => cases vh with
      | none => exact hh.elim
      | some v =>
        have b := fun code => bound_some (P := P) (w := w) hh hh0 m0 (Nat.le_refl _) code
        refine ⟨?_, hlow, .inl (b .sliceB).2, (bm .sliceB).2, by simp, fun _ => (b .sliceB).2⟩
        simp only [Sem.run_bind, Option.isSome_some, if_true]
        rw [(bm _).1]; simp only [Result.andThen_ok]
        rw [(b _).1]; simp only [Result.andThen_ok]
        rcases low with ⟨rfl, rfl⟩ | ⟨v, rfl, hv⟩
        · rfl
        · simp only [Sem.run_bind, hv, Result.andThen_ok]; rfl

theorem data_ext (s : ByteArray) (a b : Nat) : (s.extract a b).data.toList = (s.data.toList.drop a).take (b - a) := by
  rw [ByteArray.data_extract, Array.toList_extract, List.extract_eq_take_drop]
theorem sliceStr_ok {ty : TypeId} (hu : P.underlying ty = some .string) {s : ByteArray} {lo hi : Option AV} {vl vh : Option Value} (hl : OptR r lo vl) (hh : OptR r hi vh) {z : AV} (h : sliceStr s.data.toList lo hi = some z) :
    Gives P r w (Instr.slice ty (.string s) vl vh none) z := by
  unfold sliceStr at h
  split at h
  · rename_i l h0 m e
    injection h with h; subst h
    obtain ⟨hr, hle, hd, hm, hm2, _⟩ := bounds_ok (P := P) (w := w) (mx := none) (vm := none) hl hh trivial e (cap' := s.size) (by rw [size_eq]; exact Nat.le_refl _) false
    refine ⟨.string (s.extract l h0), ?_, ?_⟩
    · unfold Instr.slice
      simp only [Sem.run_bind, run_und hu, Result.andThen_ok, Option.isSome_none, Bool.false_eq_true, if_false]
      rw [← size_eq] at hr
      rw [hr]
      rfl
    · have : ((s.data.toList.take h0).drop l) = (s.extract l h0).data.toList := by
        rw [data_ext, List.drop_take]
      rw [this]; exact .str _
  · simp at h
theorem offK_eq (o l m size : Nat) : offK o l m size = if m = l then o else o + l * size := by
  unfold offK
  by_cases h : m = l
  · rw [if_pos h, beq_iff.2 h]; rfl
  · rw [if_neg h]
    cases q : Nat.beq m l with
    | true => exact absurd (beq_iff.1 q) h
    | false => rfl
theorem sliceCap_vr {b o l h m size : Nat} {loc : Loc} (hl : r b = some loc) :
    VR r (.slice b (offK o l m size) (sub h l) (some (sub m l))) (.slice (some (if m = l then ⟨loc.blk, o + loc.sh, none⟩ else (Addr.mk loc.blk (o + loc.sh) none).add (l * size))) (h - l) (m - l)) := by
  rw [offK_eq]
  by_cases e : m = l
  · rw [if_pos e, if_pos e]; exact .sliceC _ _ _ _ _ hl
  · rw [if_neg e, if_neg e, add_off]; exact .sliceC _ _ _ _ _ hl
theorem sliceArr_ok {ty e : TypeId} {n : Nat} {i : TypeInfo} (hu : P.underlying ty = some (.array n e)) (hi : P.info? e = some i) {x : AV} {v : Value} (hx : VR r x v) {lo hi' mx : Option AV} {vl vh vm : Option Value}
    (hl : OptR r lo vl) (hh : OptR r hi' vh) (hm : OptR r mx vm) {z : AV} (h : sliceAV (.arr n i.size) x lo hi' mx = some z) :
    Gives P r w (Instr.sliceAt ty v vl vh vm) z := by
  unfold sliceAV at h
  simp only at h
  split at h
  · rename_i b o
    obtain ⟨loc, hloc, rfl⟩ := hx.inv_ptr
    unfold sliceCap at h
    split at h
    · rename_i l h0 m e
      injection h with h; subst h
      obtain ⟨hr, hle, hd, hm1, hm2, _⟩ := bounds_ok (P := P) (w := w) hl hh hm e (cap' := n) (Nat.le_refl _) false
      have hmm : (if mx.isNone then n else m) = m := by
        cases mx with
        | none => simp [hm2 rfl]
        | some _ => rfl
      rw [hmm] at hr
      refine ⟨_, ?_, sliceCap_vr hloc⟩
      unfold Instr.sliceAt
      simp only [Sem.run_bind, run_und hu, Result.andThen_ok, run_sureAddr, hr, run_size hi]
      rfl
    · simp at h
  · simp at h

/-! ### type assertions, least and greatest, conversions -/
theorem memT_mem : ∀ (l : List TypeId) (t : TypeId), memT t l = true ↔ t ∈ l
  | [], t => by simp [memT]
  | u :: l, t => by
    unfold memT
    cases h : Nat.beq t u with
    | true => have := beq_iff.1 h; simp [this]
    | false =>
      have hne : t ≠ u := fun e => by rw [beq_iff.2 e] at h; exact absurd h (by simp)
      simp [memT_mem l t, hne]
theorem least_none {l : List String} : (Instr.least l).isNone = true ↔ l = [] := by cases l <;> simp [Instr.least]
theorem hasAll_eq (want : Array (String × TypeId)) (got : Array Method) : hasAll want got = (Instr.missingMethod want got).isNone := by
  rw [Bool.eq_iff_iff]
  unfold hasAll Instr.missingMethod
  rw [List.all_eq_true]
  generalize hm : (want.toList.filter fun x => !got.any fun m => m.name == x.1 && m.sig == x.2).map (·.1) = missing
  have h1 : (∀ x ∈ want.toList, (got.any fun m => m.name == x.1 && m.sig == x.2) = true) ↔ missing = [] := by
    rw [← hm, List.map_eq_nil_iff, List.filter_eq_nil_iff]
    simp
  refine Iff.trans h1 ?_
  show missing = [] ↔ (Instr.least (missing.partition (·.contains '.')).2 <|> Instr.least ((missing.partition (·.contains '.')).1.map fun id => (id.splitOn ".").getLastD id)).isNone = true
  rw [List.partition_eq_filter_filter]
  simp only
  constructor
  · rintro rfl; rfl
  · intro h
    cases missing with
    | nil => rfl
    | cons a l =>
      exfalso
      cases hc : a.contains '.' with
      | true =>
        have : ((a :: l).filter (·.contains '.')) = a :: l.filter (·.contains '.') := List.filter_cons_of_pos hc
        rw [this] at h
        cases hf : Instr.least ((a :: l).filter ((!·) ∘ fun x => x.contains '.')) with
        | none => rw [hf] at h; simp [Instr.least] at h
        | some y => rw [hf] at h; simp at h
      | false =>
        have : ((a :: l).filter ((!·) ∘ fun x => x.contains '.')) = a :: l.filter ((!·) ∘ fun x => x.contains '.') := List.filter_cons_of_pos (by simp only [Function.comp]; rw [hc]; rfl)
        rw [this] at h
        simp [Instr.least] at h
theorem implTblGo_mem (want : Array (String × TypeId)) : ∀ (l : List TypeInfo) (k t : Nat), t ∈ implTblGo want l k ↔ ∃ i, k ≤ t ∧ l[t - k]? = some i ∧ (Instr.missingMethod want i.methods).isNone = true
  | [], k, t => by simp [implTblGo]
  | i :: l, k, t => by
    unfold implTblGo
    rw [hasAll_eq]
    have ih := implTblGo_mem want l (k + 1) t
    have step : (∃ i', k ≤ t ∧ (i :: l)[t - k]? = some i' ∧ (Instr.missingMethod want i'.methods).isNone = true) ↔ (t = k ∧ (Instr.missingMethod want i.methods).isNone = true) ∨ (∃ i', k + 1 ≤ t ∧ l[t - (k + 1)]? = some i' ∧ (Instr.missingMethod want i'.methods).isNone = true) := by
      constructor
      · rintro ⟨i', hle, hg, hm⟩
        by_cases e : t = k
        · subst e; simp at hg; subst hg; exact .inl ⟨rfl, hm⟩
        · right
          have : t - k = (t - (k + 1)) + 1 := by omega
          rw [this] at hg
          exact ⟨i', by omega, by simpa using hg, hm⟩
      · rintro (⟨rfl, hm⟩ | ⟨i', hle, hg, hm⟩)
        · exact ⟨i, Nat.le_refl _, by simp, hm⟩
        · have : t - k = (t - (k + 1)) + 1 := by omega
          exact ⟨i', by omega, by rw [this]; simpa using hg, hm⟩
    rw [step, ← ih]
    cases hm : (Instr.missingMethod want i.methods).isNone with
    | true => simp
    | false => simp
theorem info_lt {t : TypeId} (h : t < P.types.size) : P.info? t = P.types.toList[t]? := by
  show (if t < P.types.size then P.types[t]? else _) = _
  rw [if_pos h, Array.getElem?_toList]
theorem mem_impl {want : Array (String × TypeId)} {t : TypeId} (hlt : t < P.types.size) : ∃ i, P.info? t = some i ∧ memT t (implTbl P want) = (Instr.missingMethod want i.methods).isNone := by
  have hg : P.types.toList[t]? = some P.types.toList[t] := List.getElem?_eq_getElem (by simpa using hlt)
  refine ⟨P.types.toList[t]'(by simpa using hlt), by rw [info_lt hlt]; exact hg, ?_⟩
  rw [Bool.eq_iff_iff, memT_mem]
  unfold implTbl
  rw [implTblGo_mem]
  constructor
  · rintro ⟨i', _, hg', hm⟩
    rw [Nat.sub_zero, hg] at hg'
    injection hg' with hg'; rw [hg']; exact hm
  · intro hm
    exact ⟨_, Nat.zero_le _, by rw [Nat.sub_zero]; exact hg, hm⟩

theorem assert_ok {ty xt : TypeId} {ok : Bool} {o : AOpd} {x z : AV} {v : Value} (hx : VR r x v) {oks : Option (Nat × List TypeId)} {zero : AV} (hc : cTypeAssert P o ty ok = .p3 (.typeAssert o oks ty zero ok))
    (h : assertAV x oks ty zero ok = some z) : Gives P r w (Instr.typeAssert v xt ty ok) z := by
  unfold cTypeAssert at hc
  obtain ⟨d, hd, hc⟩ := withU_eq hc (by simp)
  obtain ⟨i, hi, hc⟩ := withT_eq hc (by simp)
  obtain ⟨zv, zx, hz, hzx, hc⟩ := zeroI_eq hc (by simp)
  simp at hc
  obtain ⟨hoks, rfl⟩ := hc
  obtain ⟨hzr, _⟩ := ofValue_vr (r := r) hzx
  have hzero := run_zero hi hz w
  unfold assertAV at h
  split at h
  · -- nothing in it
    have := hx.inv_nili; subst this
    unfold failAV at h
    cases ok with
    | false => simp at h
    | true =>
      simp at h; subst h
      refine ⟨.tuple #[zv, .bool false], ?_, .tup _ _ (.cons _ _ _ _ hzr (.cons _ _ _ _ (.bool _) .nil))⟩
      unfold Instr.typeAssert
      rw [Sem.run_bind, run_und hd]
      cases d <;> simp [hzero]
  · rename_i u y
    obtain ⟨yv, rfl, hy⟩ := hx.inv_iface
    have holds : ∀ (s : AV) (sv : Value), VR r s sv → z = okAV ok s true → Gives P r w (pure (if ok then .tuple #[sv, .bool true] else sv) : Sem Value) z := by
      rintro s sv hs rfl
      cases ok with
      | true => exact ⟨_, rfl, .tup _ _ (.cons _ _ _ _ hs (.cons _ _ _ _ (.bool _) .nil))⟩
      | false => exact ⟨_, rfl, hs⟩
    have fails : ∀ (a b : Option TypeId) (m : String), failAV ok zx = some z → Gives P r w (if ok then (do pure (.tuple #[← zeroValue ty, .bool false]) : Sem Value) else runtimePanic (.typeAssertion a b ty m)) z := by
      intro a b m h
      unfold failAV at h
      cases ok with
      | false => simp at h
      | true =>
        simp at h; subst h
        exact ⟨.tuple #[zv, .bool false], by simp [hzero], .tup _ _ (.cons _ _ _ _ hzr (.cons _ _ _ _ (.bool _) .nil))⟩
    cases oks with
    | none =>
      simp only at h
      have hd' : ∀ ms, d ≠ .interface ms := by rintro ms rfl; simp at hoks
      have hsh : Instr.typeAssert (.iface u yv) xt ty ok = (do
          let _ ← underlying ty
          if u = ty then (pure (if ok then .tuple #[yv, .bool true] else yv) : Sem Value) else (if ok then (do pure (.tuple #[← zeroValue ty, .bool false]) : Sem Value) else runtimePanic (.typeAssertion (some xt) (some u) ty ""))) → True := fun _ => trivial
      cases hb : Nat.beq ty u with
      | true =>
        have := beq_iff.1 hb; subst this
        rw [hb] at h; simp at h
        obtain ⟨q, hq, hqr⟩ := holds _ _ hy h.symm
        refine ⟨q, ?_, hqr⟩
        unfold Instr.typeAssert
        rw [Sem.run_bind, run_und hd]
        cases d <;> first | exact absurd rfl (hd' _) | (simp only [Result.andThen_ok, if_true]; exact hq)
      | false =>
        have hne : ¬ u = ty := fun e => by rw [beq_iff.2 e.symm] at hb; exact absurd hb (by simp)
        rw [hb] at h; simp at h
        obtain ⟨q, hq, hqr⟩ := fails (some xt) (some u) "" h
        refine ⟨q, ?_, hqr⟩
        unfold Instr.typeAssert
        rw [Sem.run_bind, run_und hd]
        cases d <;> first | exact absurd rfl (hd' _) | (simp only [Result.andThen_ok, if_neg hne]; exact hq)
    | some nl =>
      obtain ⟨n, l⟩ := nl
      simp only at h
      have hdi : ∃ ms, d = .interface ms ∧ l = implTbl P ms ∧ n = P.types.size := by
        cases d <;> simp only at hoks <;> first | (simp at hoks; done) | skip
        injection hoks with hoks; injection hoks with h1 h2
        exact ⟨_, rfl, h2.symm, h1.symm⟩
      obtain ⟨ms, rfl, rfl, rfl⟩ := hdi
      obtain ⟨hlt, h⟩ := bif_some h
      have hlt : u < P.types.size := ble_iff.1 hlt
      obtain ⟨iu, hiu, hmem⟩ := mem_impl (P := P) (want := ms) hlt
      rw [hmem] at h
      cases hm : Instr.missingMethod ms iu.methods with
      | none =>
        rw [hm] at h; simp at h
        obtain ⟨q, hq, hqr⟩ := holds _ _ (.iface _ _ _ hy) h.symm
        refine ⟨q, ?_, hqr⟩
        unfold Instr.typeAssert
        simp only [Sem.run_bind, run_und hd, Result.andThen_ok, run_info hiu, hm]
        exact hq
      | some mm =>
        rw [hm] at h; simp at h
        obtain ⟨q, hq, hqr⟩ := fails none (some u) mm h
        refine ⟨q, ?_, hqr⟩
        unfold Instr.typeAssert
        simp only [Sem.run_bind, run_und hd, Result.andThen_ok, run_info hiu, hm]
        exact hq
  · simp at h

theorem conv_ok {s d : TypeId} {c : CV} {o : AOpd} {x z : AV} {v : Value} (hx : VR r x v) (hc : cConvert P s d o = .p3 (.conv c o)) (h : convAV c x = some z) : Gives P r w (convert s d v) z := by
  unfold cConvert at hc
  obtain ⟨a, ha, hc⟩ := withU_eq hc (by simp)
  obtain ⟨b, hb, hc⟩ := withU_eq hc (by simp)
  unfold convAV at h
  split at hc
  · simp at hc; subst hc
    simp only at h
    split at h
    · have := hx.inv_int; subst this
      rw [mkInt_eq, wrapQ_eq] at h; injection h with h; subst h
      refine ⟨_, ?_, .int _ _⟩
      unfold convert
      simp only [Sem.run_bind, run_und ha, run_und hb, Result.andThen_ok]
      rfl
    · simp at h
  · simp at hc; subst hc
    simp only at h
    split at h
    · have := hx.inv_int; subst this
      injection h with h; subst h
      refine ⟨.string (Utf8.encode _), ?_, .str _⟩
      unfold convert
      simp only [Sem.run_bind, run_und ha, run_und hb, Result.andThen_ok]
      rfl
    · simp at h
  · simp at hc; subst hc
    simp only at h
    split at h
    · obtain ⟨sb, rfl, rfl⟩ := hx.inv_str
      injection h with h; subst h
      refine ⟨.string sb, ?_, .str _⟩
      unfold convert
      simp only [Sem.run_bind, run_und ha, run_und hb, Result.andThen_ok]
      rfl
    · simp at h
  · obtain ⟨q, hq, hc⟩ := withU_eq hc (by simp)
    split at hc <;> simp at hc
  · obtain ⟨q, hq, hc⟩ := withU_eq hc (by simp)
    split at hc <;> simp at hc
  · simp at hc
end
end Go.AM
namespace Go.AM
open Go
variable [Env]
section
variable {P : Program} {r : Rho} {w : World} {t : TM} {ρ : Operand → Value}

theorem pick2_max (a b : Int) : pick2 true a b = (if b > a then b else a) := by
  unfold pick2; rw [ltI_eq]
  by_cases h : a < b <;> simp [h]
theorem pick2_min (a b : Int) : pick2 false a b = (if b < a then b else a) := by
  show cond (ltI b a) b a = _
  rw [ltI_eq]
  by_cases h : b < a <;> simp [h]
theorem minmaxGo_ok (mx : Bool) : ∀ (l : List AV) (vs : List Value) (k : IntKind) (a : Int) (z : AV), VRs r l vs → minmaxGo mx k a l = some z →
    ∃ v, (vs.foldlM (if mx then Builtin.max2 else Builtin.min2) (.int k a)).run P w = .ok v w ∧ VR r z v
  | [], vs, k, a, z, hv, h => by
    cases hv
    simp [minmaxGo] at h; subst h
    exact ⟨_, rfl, .int _ _⟩
  | x :: l, vs, k, a, z, hv, h => by
    cases hv with
    | cons _ _ v vs hx hs =>
    unfold minmaxGo at h
    split at h
    · simp at *
    · rename_i k' b r' e
      injection e with e1 e2; subst e1; subst e2
      split at h
      · rename_i hk; subst hk
        have := hx.inv_int; subst this
        obtain ⟨u, hu, hr⟩ := minmaxGo_ok mx _ vs k (pick2 mx a b) z hs h
        refine ⟨u, ?_, hr⟩
        rw [List.foldlM_cons, Sem.run_bind]
        have : ((if mx then Builtin.max2 else Builtin.min2) (.int k a) (.int k b)).run P w = .ok (.int k (pick2 mx a b)) w := by
          cases mx with
          | true => rw [pick2_max]; rfl
          | false => rw [pick2_min]; rfl
        rw [this]; exact hu
      · simp at h
    · simp at h
theorem minmax_ok (mx : Bool) (ts : Array TypeId) (ty : TypeId) {l : List AV} {args : Array Value} {z : AV} (hv : VRs r l args.toList) (h : minmaxAV mx l = some z) :
    Gives P r w (if mx then Builtin.max_ ts ty args else Builtin.min_ ts ty args) z := by
  unfold minmaxAV at h
  split at h
  · rename_i k a l
    cases hvs : args.toList with
    | nil => rw [hvs] at hv; cases hv
    | cons v vs =>
      rw [hvs] at hv
      cases hv with
      | cons _ _ _ _ hx hs =>
      have := hx.inv_int; subst this
      obtain ⟨u, hu, hr⟩ := minmaxGo_ok (P := P) (w := w) mx l vs k a z hs h
      refine ⟨u, ?_, hr⟩
      cases mx with
      | true => simp only [if_true, Builtin.max_, hvs]; simpa using hu
      | false => simp only [Bool.false_eq_true, if_false, Builtin.min_, hvs]; simpa using hu
  · simp at h

/-! ### values built of parts -/
theorem over_get : ∀ (cs vs : List AV) (i : Nat), (over cs vs)[i]? = if i < vs.length ∧ i < cs.length then vs[i]? else cs[i]?
  | cs, [], i => by cases cs <;> simp [over]
  | [], v :: vs, i => by simp [over]
  | c :: cs, v :: vs, 0 => by simp [over]
  | c :: cs, v :: vs, i + 1 => by simp [over, over_get cs vs i]
theorem fillAt_get (vs : List AV) : ∀ (cs : List AV) (o i : Nat), (fillAt vs cs o)[i]? = if o ≤ i ∧ i < o + vs.length ∧ i < cs.length then vs[i - o]? else cs[i]?
  | cs, 0, i => by
    have : fillAt vs cs 0 = over cs vs := by cases cs <;> rfl
    rw [this, over_get]; simp
  | [], o + 1, i => by simp [fillAt]
  | c :: cs, o + 1, 0 => by simp [fillAt]
  | c :: cs, o + 1, i + 1 => by
    simp only [fillAt, List.getElem?_cons_succ, fillAt_get vs cs o i, List.length_cons]
    have : i + 1 - (o + 1) = i - o := by omega
    rw [this]
    by_cases h : o ≤ i ∧ i < o + vs.length ∧ i < cs.length
    · rw [if_pos h, if_pos (by omega)]
    · rw [if_neg h, if_neg (by omega)]
theorem fillAt_length (vs : List AV) (cs : List AV) (o : Nat) : (fillAt vs cs o).length = cs.length := by
  have over_len : ∀ (cs vs : List AV), (over cs vs).length = cs.length := by
    intro cs
    induction cs with
    | nil => intro vs; cases vs <;> rfl
    | cons c cs ih => intro vs; cases vs with
      | nil => rfl
      | cons v vs => simp [over, ih]
  induction cs generalizing o with
  | nil => cases o with
    | zero => exact over_len _ _
    | succ o => rfl
  | cons c cs ih => cases o with
    | zero => exact over_len _ _
    | succ o => simp [fillAt, ih]
/-- what the model's own fold comes to -/
theorem fold_set (off : Nat) : ∀ (l : List (Value × Nat)) (a : Array Value),
    (l.foldl (fun cs (x : Value × Nat) => cs.setIfInBounds (off + x.2) x.1) a).size = a.size
  | [], a => rfl
  | x :: l, a => by simp [fold_set off l]
theorem fold_get (off : Nat) (i : Nat) : ∀ (vs : List Value) (k : Nat) (a : Array Value),
    ((vs.zipIdx k).foldl (fun cs (x : Value × Nat) => cs.setIfInBounds (off + x.2) x.1) a)[i]? = if off + k ≤ i ∧ i < off + k + vs.length ∧ i < a.size then vs[i - (off + k)]? else a[i]?
  | [], k, a => by simp; intro h1 h2; omega
  | v :: vs, k, a => by
    simp only [List.zipIdx_cons, List.foldl_cons]
    rw [fold_get off i vs (k + 1)]
    simp only [Array.size_setIfInBounds, List.length_cons]
    by_cases h : off + (k + 1) ≤ i ∧ i < off + (k + 1) + vs.length ∧ i < a.size
    · rw [if_pos h, if_pos (by omega)]
      have : i - (off + k) = (i - (off + (k + 1))) + 1 := by omega
      rw [this, List.getElem?_cons_succ]
    · rw [if_neg h]
      rw [Array.getElem?_setIfInBounds]
      by_cases e : off + k = i
      · subst e
        by_cases hs : off + k < a.size
        · simp [hs]
        · simp [hs]
      · rw [if_neg e, if_neg (by omega)]
theorem zipIdx_foldl (a0 : Array Value) (off : Nat) (cs : Array Value) :
    (cs.zipIdx.foldl (fun (acc : Array Value) (x : Value × Nat) => acc.setIfInBounds (off + x.2) x.1) a0) = ((cs.toList.zipIdx 0).foldl (fun acc (x : Value × Nat) => acc.setIfInBounds (off + x.2) x.1) a0) := by
  rw [← Array.foldl_toList, Array.toList_zipIdx]
/-- the parts, each at its place -/
inductive PartsR (r : Rho) (place : Nat → Option (Nat × Nat)) : List (Nat × Nat × AV) → List (Nat × Value) → Prop where
  | nil : PartsR r place [] []
  | cons (o s : Nat) (x : AV) (xs : List (Nat × Nat × AV)) (i : Nat) (v : Value) (vs : List (Nat × Value)) (hp : place i = some (o, s)) (h : VR r x v) (hs : PartsR r place xs vs) :
      PartsR r place ((o, s, x) :: xs) ((i, v) :: vs)
theorem fill_ok (place : Nat → Option (Nat × Nat)) : ∀ (ps : List (Nat × Nat × AV)) (vs : List (Nat × Value)) (cs zs : List AV) (cells : Array Value), PartsR r place ps vs → VRs r cs cells.toList → fillAll ps cs = some zs →
    ∃ cells', Instr.fill place cells vs = some cells' ∧ VRs r zs cells'.toList
  | [], vs, cs, zs, cells, hp, hc, h => by
    cases hp
    simp [fillAll] at h; subst h
    exact ⟨cells, rfl, hc⟩
  | (o, s, x) :: ps, vs, cs, zs, cells, hp, hc, h => by
    cases hp with
    | cons _ _ _ _ i v vs hpl hx hs =>
    simp only [fillAll] at h
    obtain ⟨hb, h⟩ := bif_some h
    simp only [Bool.and_eq_true, Bool.not_eq_true', Nat.ble_eq] at hb
    obtain ⟨hb1, hb2, hb3⟩ := hb
    have hne : x ≠ .bot := by rintro rfl; simp [isBot] at hb1
    have hcells := hx.cells hne
    have hlen := hcells.length
    have hclen := hc.length
    have hsz : v.cells.size = s := by have := beq_iff.1 hb2; simp at hlen; omega
    simp at hclen
    have hin : VRs r (fillAt x.cells cs o) ((v.cells.zipIdx.foldl (fun (acc : Array Value) (y : Value × Nat) => acc.setIfInBounds (o + y.2) y.1) cells)).toList := by
      rw [zipIdx_foldl]
      refine VRs_of_get _ _ ?_ ?_
      · have e1 : ∀ q : Array Value, q.toList.length = q.size := fun q => Array.length_toList
        refine (fillAt_length _ _ _).trans (hclen.trans ?_)
        rw [e1]
        exact (fold_set o (v.cells.toList.zipIdx 0) cells).symm
      · intro j a b ha hb
        rw [fillAt_get] at ha
        have hb : ((v.cells.toList.zipIdx 0).foldl (fun acc (y : Value × Nat) => acc.setIfInBounds (o + y.2) y.1) cells)[j]? = some b := by simpa using hb
        rw [fold_get] at hb
        simp only [Nat.add_zero] at hb
        by_cases hj : o ≤ j ∧ j < o + x.cells.length ∧ j < cs.length
        · rw [if_pos hj] at ha
          rw [if_pos (by rw [← hlen]; exact ⟨hj.1, hj.2.1, by omega⟩)] at hb
          obtain ⟨u, hu, hur⟩ := hcells.get' _ _ ha
          rw [hu] at hb; injection hb with hb; subst hb; exact hur
        · rw [if_neg hj] at ha
          rw [if_neg (by rw [← hlen]; intro q; exact hj ⟨q.1, q.2.1, by omega⟩)] at hb
          obtain ⟨u, hu, hur⟩ := hc.get' _ _ ha
          have hb : cells.toList[j]? = some b := by simpa using hb
          rw [hu] at hb; injection hb with hb; subst hb; exact hur
    obtain ⟨cells', hf, hr⟩ := fill_ok place ps vs _ zs _ hs hin h
    refine ⟨cells', ?_, hr⟩
    simp only [Instr.fill, hpl]
    have hcond : (decide (v.cells.size ≠ s) || decide (o + v.cells.size > cells.size)) = false := by
      simp only [Bool.or_eq_false_iff, decide_eq_false_iff_not]
      exact ⟨fun e => e hsz, by omega⟩
    rw [if_neg (by rw [hcond]; simp)]
    exact hf
end
end Go.AM
namespace Go.AM
open Go
variable [Env]
section
variable {P : Program} {r : Rho} {w : World} {t : TM} {ρ : Operand → Value}

theorem run_mapM_list {α β : Type} (f : α → Sem β) (g : α → β) (w : World) : ∀ (l : List α), (∀ a ∈ l, (f a).run P w = .ok (g a) w) → (l.mapM f).run P w = .ok (l.map g) w
  | [], _ => rfl
  | a :: l, h => by
    rw [List.mapM_cons, Sem.run_bind, h a (by simp)]
    simp only [Result.andThen_ok, Sem.run_bind]
    rw [run_mapM_list f g w l (fun b hb => h b (List.mem_cons_of_mem _ hb))]
    rfl
theorem run_mapM_array {α β : Type} (f : α → Sem β) (g : α → β) (w : World) (a : Array α) (h : ∀ x ∈ a.toList, (f x).run P w = .ok (g x) w) : (a.mapM f).run P w = .ok (a.map g) w := by
  rw [Array.mapM_eq_mapM_toList, Sem.run_map, run_mapM_list f g w a.toList h]
  simp only [Result.andThen_ok]
  congr 1
  apply Array.toList_inj.1
  simp

def fieldSize (P : Program) (f : Field) : Nat × Nat := (f.offset, ((P.info? f.type).map (·.size)).getD 0)
theorem placesOf_parts (hE : EnvR r t ρ) (fs : Array Field) : ∀ (l : List (Nat × Operand)) (q : List (Nat × Nat × AOpd)), placesOf P fs l = some q →
    PartsR r ((fs.map (fieldSize P))[·]?) (evParts t q) (l.map fun x => (x.1, ρ x.2))
  | [], q, h => by simp [placesOf] at h; subst h; exact .nil
  | (i, x) :: l, q, h => by
    unfold placesOf at h
    split at h
    · rename_i f hf
      split at h
      · rename_i ti l' hti hl'
        injection h with h; subst h
        refine .cons _ _ _ _ _ _ _ ?_ (hE x) (placesOf_parts hE fs l l' hl')
        simp [hf, fieldSize, hti]
      · simp at h
    · simp at h
theorem elemPlaces_parts (hE : EnvR r t ρ) (size : Nat) : ∀ (l : List (Nat × Operand)), PartsR r (fun i => some (i * size, size)) (evParts t (elemPlaces size l)) (l.map fun x => (x.1, ρ x.2))
  | [] => .nil
  | (_, x) :: l => .cons _ _ _ _ _ _ _ rfl (hE x) (elemPlaces_parts hE size l)

theorem build_ok (hE : EnvR r t ρ) {ty : TypeId} {parts : Array (Nat × Operand)} {p : P3} {z : AV} (hc : cBuild P ty parts = .p3 p) (h : doP3 t p = some z) :
    Gives P r w (Instr.build ty (parts.map fun x => (x.1, ρ x.2))) z := by
  unfold cBuild at hc
  obtain ⟨d, hd, hc⟩ := withU_eq hc (by simp)
  obtain ⟨i, hi, hc⟩ := withT_eq hc (by simp)
  obtain ⟨zv, zx, hz, hzx, hc⟩ := zeroI_eq hc (by simp)
  have hzr := ofValue_vr (r := r) hzx
  have hzc := hzr.1.cells hzr.2
  have hparts : (parts.map fun x => (x.1, ρ x.2)).toList = parts.toList.map fun x => (x.1, ρ x.2) := Array.toList_map
  have agg : ∀ (ps : List (Nat × Nat × AOpd)), doP3 t (.build zx.cells ps) = some z → ∃ cs, fillAll (evParts t ps) zx.cells = some cs ∧ z = .agg cs := by
    intro ps e
    have e : aggO (fillAll (evParts t ps) zx.cells) = some z := e
    unfold aggO at e
    split at e
    · rename_i l hl; injection e with e; exact ⟨l, hl, e.symm⟩
    · simp at e
  cases d with
  | array n e =>
    simp only at hc
    obtain ⟨ei, hei, hc⟩ := withT_eq hc (by simp)
    simp at hc; subst hc
    obtain ⟨cs, hcs, rfl⟩ := agg _ h
    obtain ⟨cells', hf, hr⟩ := fill_ok _ _ _ _ _ _ (elemPlaces_parts hE ei.size parts.toList) hzc hcs
    refine ⟨.agg cells', ?_, .agg _ _ hr⟩
    unfold Instr.build
    simp only [Sem.run_bind, run_zero hi hz, Result.andThen_ok, run_und hd, run_size hei, hparts, hf]
    rfl
  | struct fs =>
    simp only at hc
    split at hc
    · rename_i hall
      split at hc
      · rename_i l hl
        simp at hc; subst hc
        obtain ⟨cs, hcs, rfl⟩ := agg _ h
        obtain ⟨cells', hf, hr⟩ := fill_ok _ _ _ _ _ _ (placesOf_parts hE fs parts.toList l hl) hzc hcs
        refine ⟨.agg cells', ?_, .agg _ _ hr⟩
        unfold Instr.build
        simp only [Sem.run_bind, run_zero hi hz, Result.andThen_ok, run_und hd]
        rw [run_mapM_array (P := P) _ (fieldSize P) w fs]
        · simp only [Result.andThen_ok, hparts, hf]
          rfl
        · intro f hf
          have : (P.info? f.type).isSome = true := by
            have := Array.all_eq_true'.1 hall f (by simpa using hf)
            exact this
          obtain ⟨fi, hfi⟩ := Option.isSome_iff_exists.1 this
          simp [run_size hfi, fieldSize, hfi]
      · simp at hc
    · simp at hc
  | _ => simp at hc
end
end Go.AM
namespace Go.AM
open Go
variable [Env]
/-- an operation without effect, of whatever kind -/
noncomputable def pureV (t : TM) (q : AOp) : Option AV := match q with
  | .p1 o => doP1 t o
  | .p2 o => doP2 t o
  | .p3 o => doP3 t o
  | _ => none
section
variable {P : Program} {r : Rho} {w : World} {t : TM} {ρ : Operand → Value}

/-- what an operation of a region comes to: a value, the world as it was -/
def ValueOf (P : Program) (r : Rho) (w : World) (s : Sem Next) (z : AV) : Prop := ∃ v, s.run P w = .ok (.value v) w ∧ VR r z v
theorem value_of {s : Sem Value} {z : AV} (h : Gives P r w s z) : ValueOf P r w (do pure (Next.value (← s))) z := by
  obtain ⟨v, hv, hr⟩ := h
  exact ⟨v, by rw [Sem.run_bind, hv]; rfl, hr⟩

theorem pv_withT {ty : TypeId} {k : TypeInfo → AOp} {z : AV} (h : pureV t (withT P ty k) = some z) : ∃ i, P.info? ty = some i ∧ pureV t (k i) = some z := by
  unfold withT at h
  split at h
  · rename_i i hi; exact ⟨i, hi, h⟩
  · simp [pureV] at h
theorem pv_withU {ty : TypeId} {k : TypeDesc → AOp} {z : AV} (h : pureV t (withU P ty k) = some z) : ∃ d, P.underlying ty = some d ∧ pureV t (k d) = some z := by
  unfold withU at h
  split at h
  · rename_i i hi; exact ⟨i, hi, h⟩
  · simp [pureV] at h
theorem pv_zeroI {i : TypeInfo} {k : AV → AOp} {z : AV} (h : pureV t (zeroI i k) = some z) : ∃ x, pureV t (k x) = some z := by
  unfold zeroI at h
  split at h
  · split at h
    · exact ⟨_, h⟩
    · simp [pureV] at h
  · simp [pureV] at h
theorem args_vrs (hE : EnvR r t ρ) (args : Array Operand) : VRs r (evOs t (args.toList.map opd)) (args.map ρ).toList := by
  rw [Array.toList_map]; exact evOs_vrs hE _
/-- the built-in functions that read nothing of memory -/
theorem builtin_pure (hE : EnvR r t ρ) (b : Builtin) (ts : Array TypeId) (args : Array Operand) (ty : TypeId) (cs : Array Bool) {z : AV}
    (hz : pureV t (cBuiltin P b ts (args.toList.map opd)) = some z) : ValueOf P r w (builtin b ts ty cs (args.map ρ)) z := by
  have hargs := args_vrs hE args
  unfold cBuiltin at hz
  split at hz
  · rename_i s x ta tb tl e1 e2
    unfold cAppend at hz
    obtain ⟨d, _, hz⟩ := pv_withU hz
    obtain ⟨d', _, hz⟩ := pv_withU hz
    split at hz
    · simp [pureV] at hz
    · obtain ⟨i, _, hz⟩ := pv_withT hz
      revert hz
      cases (Nat.ble 1 i.size && Nat.ble 1 i.bytes && (match i.zero with | some z => z.cells.size == i.size | none => false)) <;> intro hz <;> simp [pureV] at hz
    · simp [pureV] at hz
  · unfold cCopy at hz
    obtain ⟨d, _, hz⟩ := pv_withU hz
    cases d <;> simp only at hz <;> first | (simp [pureV] at hz; done) | (obtain ⟨i, _, hz⟩ := pv_withT hz; simp [pureV] at hz)
  · unfold cClear at hz
    obtain ⟨d, _, hz⟩ := pv_withU hz
    cases d <;> simp only at hz <;> first | (simp [pureV] at hz; done) | (obtain ⟨i, _, hz⟩ := pv_withT hz; obtain ⟨x, hz⟩ := pv_zeroI hz; simp [pureV] at hz)
  · rename_i x ta tl e1 e2
    have hx : ∃ v, (args.map ρ)[0]? = some v := by
      cases hl : args.toList with
      | nil => rw [hl] at e1; simp at e1
      | cons a l =>
        have : args[0]? = some a := by rw [← Array.getElem?_toList, hl]; rfl
        exact ⟨ρ a, by simp [this]⟩
    obtain ⟨v, hv⟩ := hx
    have hta : ts[0]? = some ta := by rw [← Array.getElem?_toList, e2]; rfl
    unfold cLen at hz
    obtain ⟨d, hd, hz⟩ := pv_withU hz
    have arr : ∀ n : Nat, pureV t (.p1 (.mv (.const (.int .i64 n)))) = some z → (Builtin.len_ ts ty (args.map ρ)).run P w = .ok (goInt n) w → ValueOf P r w (builtin .len ts ty cs (args.map ρ)) z := by
      intro n h1 h2
      have h1 : some (AV.int .i64 n) = some z := h1
      injection h1 with h1; subst h1
      exact value_of ⟨_, h2, .int _ _⟩
    cases d <;> simp only at hz <;> first | (simp [pureV] at hz; done) | skip
    · obtain ⟨d', hd', hz⟩ := pv_withU hz
      cases d' <;> simp only at hz <;> first | (simp [pureV] at hz; done) | skip
      refine arr _ hz ?_
      simp only [Builtin.len_, hta, hv, Sem.run_bind, run_und hd, Result.andThen_ok]
      rw [run_und hd']
      rfl
    · refine arr _ hz ?_
      simp only [Builtin.len_, hta, hv, Sem.run_bind, run_und hd, Result.andThen_ok]
      rfl
  · have hz : minmaxAV false (evOs t (args.toList.map opd)) = some z := hz
    exact value_of (minmax_ok false ts ty hargs hz)
  · have hz : minmaxAV true (evOs t (args.toList.map opd)) = some z := hz
    exact value_of (minmax_ok true ts ty hargs hz)
  · unfold cDelete at hz
    obtain ⟨d, _, hz⟩ := pv_withU hz
    cases d <;> simp only at hz <;> first | (simp [pureV] at hz; done) | (obtain ⟨i, _, hz⟩ := pv_withU hz; split at hz <;> simp [pureV] at hz)
  · simp [pureV] at hz
  · simp [pureV] at hz
theorem pure_exec (hE : EnvR r t ρ) (o : Oper) {z : AV} (hz : pureV t (cop P o.op) = some z) : ValueOf P r w (execOp ρ o) z := by
  obtain ⟨dst, op, type, pos, after, guard⟩ := o
  simp only at hz
  -- what is no operation without effect
  have contra : ∀ {q : AOp}, pureV t q = none → pureV t q = some z → False := fun h1 h2 => by rw [h1] at h2; simp at h2
  -- which of the three kinds
  have kinds : ∀ q, pureV t q = some z → (∃ p, q = .p1 p ∧ doP1 t p = some z) ∨ (∃ p, q = .p2 p ∧ doP2 t p = some z) ∨ (∃ p, q = .p3 p ∧ doP3 t p = some z) := by
    intro q h
    cases q <;> first
      | exact .inl ⟨_, rfl, h⟩
      | exact .inr (.inl ⟨_, rfl, h⟩)
      | exact .inr (.inr ⟨_, rfl, h⟩)
      | (simp [pureV] at h)
  cases op with
  | move x =>
    have hz : some (evO t (opd x)) = some z := hz
    injection hz with hz; subst hz
    exact ⟨ρ x, rfl, hE x⟩
  | assign x =>
    have hz : some (evO t (opd x)) = some z := hz
    injection hz with hz; subst hz
    exact ⟨ρ x, rfl, hE x⟩
  | pick c a b =>
    have hz : pickAV (evO t (opd c)) (evO t (opd a)) (evO t (opd b)) = some z := hz
    obtain ⟨v, hv, hr⟩ := pick_ok (P := P) (w := w) (hE c) (hE a) (hE b) hz
    refine ⟨v, ?_, hr⟩
    show (do pure (.value (if ← asBool (ρ c) then ρ a else ρ b)) : Sem Next).run P w = _
    rw [Sem.run_bind] at hv ⊢
    cases hb : (asBool (ρ c)).run P w with
    | ok b w' => rw [hb] at hv; simp at hv ⊢; exact ⟨hv.1, hv.2⟩
    | halt h w' => rw [hb] at hv; simp [Result.andThen] at hv
  | nilCheck x =>
    have hz : nilCheckAV (evO t (opd x)) = some z := hz
    have hx := hE x
    unfold nilCheckAV at hz
    split at hz
    all_goals rename_i e
    all_goals try (simp at hz; done)
    all_goals rw [e] at hx
    all_goals injection hz with hz
    all_goals subst hz
    · obtain ⟨l, hl, q⟩ := hx.inv_ptr
      exact ⟨_, by unfold execOp; simp only [q]; rfl, .ptr _ _ _ hl⟩
    · obtain ⟨u, q, hu⟩ := hx.inv_iface
      exact ⟨_, by unfold execOp; simp only [q]; rfl, .iface _ _ _ hu⟩
    · obtain ⟨g, ys, ds, q, hg, h1, h2⟩ := hx.inv_func
      cases hg
      exact ⟨_, by unfold execOp; simp only [q]; rfl, .func _ _ _ _ _ _ (.same _ (by simp)) h1 h2⟩
    · obtain ⟨g, ys, ds, q, hg, h1, h2⟩ := hx.inv_func
      cases hg with
      | same _ h => exact absurd rfl (h _)
      | yield l loc h =>
      exact ⟨_, by unfold execOp; simp only [q]; rfl, .func _ _ _ _ _ _ (.yield _ _ h) h1 h2⟩
  | binOp op ty x y yt =>
    have hcop : cop P (.binOp op ty x y yt) = cBinOp P op ty x y := rfl
    rw [hcop] at hz
    have fin : Gives P r w (do eqGuard op ty x y (ρ x) (ρ y); binOp op ty (ρ x) (ρ y)) z → ValueOf P r w (execOp ρ ⟨dst, .binOp op ty x y yt, type, pos, after, guard⟩) z := fun h => value_of h
    apply fin
    have eqs : ∀ neg, (op = .eql ∧ neg = false ∨ op = .neq ∧ neg = true) → pureV t (cEq P op neg ty (isConstO x || isConstO y) (opd x) (opd y)) = some z →
        Gives P r w (do eqGuard op ty x y (ρ x) (ρ y); binOp op ty (ρ x) (ρ y)) z := by
      intro neg ho hz
      rcases kinds _ hz with ⟨p, hp, hd⟩ | ⟨p, hp, hd⟩ | ⟨p, hp, hd⟩
      · have : p = .binOp op (opd x) (opd y) := by
          unfold cEq at hp
          obtain ⟨d, hd', hp⟩ := withU_eq hp (by simp)
          cases d <;> simp only at hp <;> first
            | (simp at hp; exact hp.symm)
            | (simp at hp; done)
            | (obtain ⟨i, hi, hp⟩ := withT_eq hp (by simp); cases hq : Nat.beq i.size 0 <;> rw [hq] at hp <;> simp at hp)
            | (rename_i fs; cases hq : (P.eqGuardType P.depth ty || P.stoodInHeld ty) <;> rw [hq] at hp <;> simp only [cond_true, cond_false] at hp <;> first | (simp at hp; done) | (split at hp <;> simp at hp))
        subst this
        exact num_ok hE hd
      · exact eq_ok hE ho hp hd
      · exfalso
        unfold cEq at hp
        obtain ⟨d, hd', hp⟩ := withU_eq hp (by simp)
        cases d <;> simp only at hp <;> first
            | (simp at hp; done)
            | (obtain ⟨i, hi, hp⟩ := withT_eq hp (by simp); cases hq : Nat.beq i.size 0 <;> rw [hq] at hp <;> simp at hp)
            | (rename_i fs; cases hq : (P.eqGuardType P.depth ty || P.stoodInHeld ty) <;> rw [hq] at hp <;> simp only [cond_true, cond_false] at hp <;> first | (simp at hp; done) | (split at hp <;> simp at hp))
    unfold cBinOp at hz
    split at hz
    · exact eqs false (.inl ⟨rfl, rfl⟩) hz
    · exact eqs true (.inr ⟨rfl, rfl⟩) hz
    · exact num_ok hE hz
  | fieldAddr s x f =>
    have hcop : cop P (.fieldAddr s x f) = cFieldAddr P s (opd x) f := rfl
    rw [hcop] at hz
    apply value_of
    rcases kinds _ hz with ⟨p, hp, hd⟩ | ⟨p, hp, hd⟩ | ⟨p, hp, hd⟩
    all_goals
      have hp0 := hp
      unfold cFieldAddr at hp
      obtain ⟨d, hd', hp⟩ := withU_eq hp (by simp)
      cases d <;> simp only at hp <;> try (simp at hp; done)
      split at hp
      case h_2 => simp at hp
      obtain ⟨i, hi, hp⟩ := withT_eq hp (by simp)
      cases hq : Nat.beq i.size 0 <;> rw [hq] at hp <;> simp at hp
    subst hp
    exact fieldAddr_ok (hE x) hp0 hd
  | extract x i =>
    exact value_of (extract_ok (hE x) (show extractAV (evO t (opd x)) i = some z from hz))
  | unOp op ty x =>
    exact value_of (un_ok (hE x) (show unAV op (evO t (opd x)) = some z from hz))
  | makeInterface ty x =>
    have hcop : cop P (.makeInterface ty x) = cMkIface P ty (opd x) := rfl
    rw [hcop] at hz
    apply value_of
    rcases kinds _ hz with ⟨p, hp, hd⟩ | ⟨p, hp, hd⟩ | ⟨p, hp, hd⟩
    all_goals
      have hp0 := hp
      unfold cMkIface at hp
      obtain ⟨d, hd', hp⟩ := withU_eq hp (by simp)
      cases d <;> simp at hp
    all_goals
      subst hp
      have hd : some (AV.iface ty (evO t (opd x))) = some z := hd
      injection hd with hd; subst hd
      exact mkIface_ok (hE x) hp0
  | makeFunc fn first cap =>
    have hcop : cop P (.makeFunc fn first cap) = bif isYield fn then .bad else .p2 (.mkFunc fn (first.toList.map opd) (cap.toList.map opd)) := rfl
    rw [hcop] at hz
    cases hy : isYield fn with
    | true => rw [hy] at hz; simp [pureV] at hz
    | false =>
      rw [hy] at hz
      have hz : some (AV.func fn (evOs t (first.toList.map opd)) (evOs t (cap.toList.map opd))) = some z := hz
      injection hz with hz; subst hz
      exact value_of (mkFunc_ok (fn := fn) hE first cap (by rintro l rfl; simp [isYield] at hy))
  | field ty x f =>
    have hcop : cop P (.field ty x f) = cField P ty (opd x) f := rfl
    rw [hcop] at hz
    apply value_of
    rcases kinds _ hz with ⟨p, hp, hd⟩ | ⟨p, hp, hd⟩ | ⟨p, hp, hd⟩
    all_goals
      have hp0 := hp
      unfold cField at hp
      obtain ⟨d, hd', hp⟩ := withU_eq hp (by simp)
      cases d <;> simp only at hp <;> try (simp at hp; done)
      split at hp
      case h_2 => simp at hp
      obtain ⟨i, hi, hp⟩ := withT_eq hp (by simp)
      obtain ⟨u, hu, hp⟩ := withU_eq hp (by simp)
      simp at hp
    subst hp
    exact field_ok (hE x) hp0 hd
  | indexAddr ty x y =>
    have hcop : cop P (.indexAddr ty x y) = cIndexAddr P ty (opd x) (opd y) := rfl
    rw [hcop] at hz
    apply value_of
    rcases kinds _ hz with ⟨p, hp, hd⟩ | ⟨p, hp, hd⟩ | ⟨p, hp, hd⟩
    all_goals
      have hp0 := hp
      unfold cIndexAddr at hp
      obtain ⟨d, hd', hp⟩ := withU_eq hp (by simp)
      cases d <;> simp only at hp <;> try (simp at hp; done)
      all_goals
        obtain ⟨i, hi, hp⟩ := withT_eq hp (by simp)
        simp at hp
    all_goals
      subst hp
      exact indexAddr_ok (hE x) (hE y) hp0 hd
  | index ty x y =>
    have hcop : cop P (.index ty x y) = cIndex P ty (opd x) (opd y) := rfl
    rw [hcop] at hz
    apply value_of
    rcases kinds _ hz with ⟨p, hp, hd⟩ | ⟨p, hp, hd⟩ | ⟨p, hp, hd⟩
    all_goals
      have hp0 := hp
      unfold cIndex at hp
      obtain ⟨d, hd', hp⟩ := withU_eq hp (by simp)
      cases d <;> simp only at hp <;> first
        | (simp at hp; done)
        | (obtain ⟨i, hi, hp⟩ := withT_eq hp (by simp); obtain ⟨u, hu, hp⟩ := withU_eq hp (by simp); simp at hp; done)
        | skip
    · simp at hp; subst hp
      exact indexStr_ok (hE x) (hE y) hp0 hd
    · obtain ⟨i, hi, hp⟩ := withT_eq hp (by simp); obtain ⟨u, hu, hp⟩ := withU_eq hp (by simp); simp at hp; subst hp
      exact indexArr_ok (hE x) (hE y) hp0 hd
  | build ty parts =>
    have hcop : cop P (.build ty parts) = cBuild P ty parts := rfl
    rw [hcop] at hz
    apply value_of
    rcases kinds _ hz with ⟨p, hp, hd⟩ | ⟨p, hp, hd⟩ | ⟨p, hp, hd⟩
    · exfalso
      unfold cBuild at hp
      obtain ⟨d, hd', hp⟩ := withU_eq hp (by simp)
      obtain ⟨i, hi, hp⟩ := withT_eq hp (by simp)
      obtain ⟨zv, zx, hz', hzx, hp⟩ := zeroI_eq hp (by simp)
      cases d <;> simp only at hp <;> first
        | (simp at hp; done)
        | (obtain ⟨i, hi, hp⟩ := withT_eq hp (by simp); simp at hp; done)
        | (split at hp <;> first | (split at hp <;> simp at hp; done) | (simp at hp; done))
    · exfalso
      unfold cBuild at hp
      obtain ⟨d, hd', hp⟩ := withU_eq hp (by simp)
      obtain ⟨i, hi, hp⟩ := withT_eq hp (by simp)
      obtain ⟨zv, zx, hz', hzx, hp⟩ := zeroI_eq hp (by simp)
      cases d <;> simp only at hp <;> first
        | (simp at hp; done)
        | (obtain ⟨i, hi, hp⟩ := withT_eq hp (by simp); simp at hp; done)
        | (split at hp <;> first | (split at hp <;> simp at hp; done) | (simp at hp; done))
    · exact build_ok hE hp hd
  | typeAssert x xt ty ok =>
    have hcop : cop P (.typeAssert x xt ty ok) = cTypeAssert P (opd x) ty ok := rfl
    rw [hcop] at hz
    apply value_of
    rcases kinds _ hz with ⟨p, hp, hd⟩ | ⟨p, hp, hd⟩ | ⟨p, hp, hd⟩
    all_goals
      have hp0 := hp
      unfold cTypeAssert at hp
      obtain ⟨d, hd', hp⟩ := withU_eq hp (by simp)
      obtain ⟨i, hi, hp⟩ := withT_eq hp (by simp)
      obtain ⟨zv, zx, hz', hzx, hp⟩ := zeroI_eq hp (by simp)
      simp at hp
    subst hp
    exact assert_ok (hE x) hp0 hd
  | convert s d x =>
    have hcop : cop P (.convert s d x) = cConvert P s d (opd x) := rfl
    rw [hcop] at hz
    apply value_of
    rcases kinds _ hz with ⟨p, hp, hd⟩ | ⟨p, hp, hd⟩ | ⟨p, hp, hd⟩
    all_goals
      have hp0 := hp
      unfold cConvert at hp
      obtain ⟨a, ha, hp⟩ := withU_eq hp (by simp)
      obtain ⟨b, hb, hp⟩ := withU_eq hp (by simp)
      split at hp <;> first
        | (simp at hp; done)
        | (obtain ⟨q, hq, hp⟩ := withU_eq hp (by simp); split at hp <;> simp at hp; done)
        | skip
    all_goals
      simp at hp
      subst hp
      exact conv_ok (hE x) hp0 hd
  | slice ty x lo hi mx =>
    have hcop : cop P (.slice ty x lo hi mx) = cSlice P ty (opd x) (lo.map opd) (hi.map opd) (mx.map opd) := rfl
    rw [hcop] at hz
    apply value_of
    rcases kinds _ hz with ⟨p, hp, hd⟩ | ⟨p, hp, hd⟩ | ⟨p, hp, hd⟩
    all_goals
      unfold cSlice at hp
      obtain ⟨d, hd', hp⟩ := withU_eq hp (by simp)
      cases d <;> simp only at hp <;> first
        | (simp at hp; done)
        | (obtain ⟨i, hi', hp⟩ := withT_eq hp (by simp); (try split at hp) <;> simp at hp; done)
        | skip
    · simp at hp; subst hp
      have hd : sliceAV .str (evO t (opd x)) (evOo t (lo.map opd)) (evOo t (hi.map opd)) (evOo t (mx.map opd)) = some z := hd
      unfold sliceAV at hd
      simp only at hd
      have hx := hE x
      split at hd
      · rename_i s e
        rw [e] at hx
        obtain ⟨sb, q, rfl⟩ := hx.inv_str
        obtain ⟨hn, hd⟩ := bif_some hd
        have hmx : mx = none := by cases mx with | none => rfl | some _ => simp [evOo, isNone] at hn
        subst hmx
        obtain ⟨v, hv, hr⟩ := sliceStr_ok (P := P) (w := w) hd' (evOo_opt hE lo) (evOo_opt hE hi) hd
        refine ⟨v, ?_, hr⟩
        show (Instr.sliceAt ty (ρ x) (lo.map ρ) (hi.map ρ) none).run P w = _
        unfold Instr.sliceAt
        rw [Sem.run_bind, run_und hd', q]
        exact hv
      · simp at hd
    · obtain ⟨i, hi', hp⟩ := withT_eq hp (by simp)
      simp at hp; subst hp
      have hd : sliceAV (.arr _ _) (evO t (opd x)) (evOo t (lo.map opd)) (evOo t (hi.map opd)) (evOo t (mx.map opd)) = some z := hd
      exact sliceArr_ok hd' hi' (hE x) (evOo_opt hE lo) (evOo_opt hE hi) (evOo_opt hE mx) hd
  | call c =>
    have hcop : cop P (.call c) = cCall P c := rfl
    rw [hcop] at hz
    unfold cCall at hz
    obtain ⟨callee, args, argTypes⟩ := c
    cases callee with
    | value f => simp [pureV] at hz
    | invoke f n => simp [pureV] at hz
    | builtin b =>
      simp only at hz
      exact builtin_pure hE b argTypes args type _ hz
  | alloc ty =>
    have hz : pureV t (withT P ty fun i => zeroI i fun z => .m1 (.alloc (tagA ty) z.cells)) = some z := hz
    obtain ⟨i, _, hz⟩ := pv_withT hz
    obtain ⟨x, hz⟩ := pv_zeroI hz
    simp [pureV] at hz
  | buildSlice ty n ps =>
    have hz : pureV t (cBuildSlice P ty n ps) = some z := hz
    unfold cBuildSlice at hz
    obtain ⟨d, _, hz⟩ := pv_withU hz
    cases d <;> simp only at hz <;> first | (simp [pureV] at hz; done) | (obtain ⟨i, _, hz⟩ := pv_withT hz; obtain ⟨x, hz⟩ := pv_zeroI hz; split at hz <;> simp [pureV] at hz)
  | load ty a =>
    have hz : pureV t (withT P ty fun i => withU P ty fun d => .m1 (.load i.size (aggD d) (opd a))) = some z := hz
    obtain ⟨i, _, hz⟩ := pv_withT hz
    obtain ⟨x, _, hz⟩ := pv_withU hz
    simp [pureV] at hz
  | store ty a x =>
    have hz : pureV t (withT P ty fun i => .m1 (.store i.size (opd a) (opd x))) = some z := hz
    obtain ⟨i, _, hz⟩ := pv_withT hz
    simp [pureV] at hz
  | makeMap ty res => cases res <;> simp [pureV, cop] at hz
  | makeSlice ty l c =>
    have hz : pureV t (cMakeSlice P ty (opd l) (opd c)) = some z := hz
    unfold cMakeSlice at hz
    obtain ⟨d, _, hz⟩ := pv_withU hz
    cases d <;> simp only at hz <;> first | (simp [pureV] at hz; done) | (obtain ⟨i, _, hz⟩ := pv_withT hz; obtain ⟨x, hz⟩ := pv_zeroI hz; split at hz <;> simp [pureV] at hz)
  | lookup ty m k ok =>
    have hz : pureV t (cLookup P ty (opd m) (opd k) ok) = some z := hz
    unfold cLookup at hz
    obtain ⟨d, _, hz⟩ := pv_withU hz
    cases d <;> simp only at hz <;> first | (simp [pureV] at hz; done) | skip
    obtain ⟨i, _, hz⟩ := pv_withU hz
    split at hz
    · obtain ⟨i, _, hz⟩ := pv_withT hz; obtain ⟨x, hz⟩ := pv_zeroI hz; simp [pureV] at hz
    · simp [pureV] at hz
  | mapUpdate ty m k x =>
    have hz : pureV t (cMapUpdate P ty (opd m) (opd k) (opd x)) = some z := hz
    unfold cMapUpdate at hz
    obtain ⟨d, _, hz⟩ := pv_withU hz
    cases d <;> simp only at hz <;> first | (simp [pureV] at hz; done) | (obtain ⟨i, _, hz⟩ := pv_withU hz; split at hz <;> simp [pureV] at hz)
  | insert ty m k x =>
    have hz : pureV t (cMapUpdate P ty (opd m) (opd k) (opd x)) = some z := hz
    unfold cMapUpdate at hz
    obtain ⟨d, _, hz⟩ := pv_withU hz
    cases d <;> simp only at hz <;> first | (simp [pureV] at hz; done) | (obtain ⟨i, _, hz⟩ := pv_withU hz; split at hz <;> simp [pureV] at hz)
  | mapEntry ty m k =>
    have hz : pureV t (cMapEntry P ty (opd m) (opd k)) = some z := hz
    unfold cMapEntry at hz
    obtain ⟨d, _, hz⟩ := pv_withU hz
    cases d <;> simp only at hz <;> first | (simp [pureV] at hz; done) | skip
    obtain ⟨i, _, hz⟩ := pv_withU hz
    split at hz
    · obtain ⟨i, _, hz⟩ := pv_withT hz; obtain ⟨x, hz⟩ := pv_zeroI hz; simp [pureV] at hz
    · simp [pureV] at hz
  | range ty x =>
    have hz : pureV t (cRange P ty (opd x)) = some z := hz
    unfold cRange at hz
    obtain ⟨d, _, hz⟩ := pv_withU hz
    cases d <;> simp [pureV] at hz
  | defer c =>
    have hz : pureV t (cDefer c) = some z := hz
    unfold cDefer at hz
    split at hz <;> simp [pureV] at hz
  | _ => simp [pureV, cop] at hz
end
end Go.AM
namespace Go.AM
open Go
variable [Env]
section
variable {P : Program} {r : Rho} {w : World} {h : H} {t : TM} {ρ : Operand → Value}

/-- what an operation on memory comes to -/
def MemOf (P : Program) (r : Rho) (h : H) (w : World) (s : Sem Next) (z : AV) (h' : H) : Prop :=
  ∃ v w' r', (s.run P w = .ok (.value v) w' ∨ (s.run P w = .ok .skip w' ∧ v = undef)) ∧ VR r' z v ∧ Rel P r' h' w' ∧ Keeps r h w r' h' w'
/-- the same, of a value -/
def MemV (P : Program) (r : Rho) (h : H) (w : World) (s : Sem Value) (z : AV) (h' : H) : Prop :=
  ∃ v w' r', s.run P w = .ok v w' ∧ VR r' z v ∧ Rel P r' h' w' ∧ Keeps r h w r' h' w'
theorem memOf_of {s : Sem Value} {z : AV} {h' : H} (m : MemV P r h w s z h') : MemOf P r h w (do pure (Next.value (← s))) z h' := by
  obtain ⟨v, w', r', h1, h2, h3, h4⟩ := m
  exact ⟨v, w', r', .inl (by rw [Sem.run_bind, h1]; rfl), h2, h3, h4⟩
theorem memOf_unit {s : Sem Unit} {h' : H} (m : ∃ w' r', s.run P w = .ok () w' ∧ Rel P r' h' w' ∧ Keeps r h w r' h' w') : MemOf P r h w (do s; pure Next.skip) .undef h' := by
  obtain ⟨w', r', h1, h3, h4⟩ := m
  exact ⟨undef, w', r', .inr ⟨by rw [Sem.run_bind, h1]; rfl, rfl⟩, .tup _ _ .nil, h3, h4⟩
theorem memV_gives {s : Sem Value} {z : AV} (hr : Rel P r h w) (g : Gives P r w s z) : MemV P r h w s z h := by
  obtain ⟨v, h1, h2⟩ := g
  exact ⟨v, w, r, h1, h2, hr, Keeps.refl r h w⟩
theorem qr_v {x z : AV} {h h' : H} (e : QR.v x h = .v z h') : x = z ∧ h = h' := by injection e with a b; exact ⟨a, b⟩

theorem add_addr (b o sh j : Nat) : (Addr.mk b (o + sh) none).add j = ⟨b, o + sh + j, none⟩ := by
  unfold Addr.add; split
  · rename_i e; subst e; rfl
  · rfl

/-! ### loads and stores -/
theorem load_ok (hr : Rel P r h w) {ty : TypeId} {i : TypeInfo} {d : TypeDesc} (hi : P.info? ty = some i) (hd : P.underlying ty = some d) {a z : AV} {v : Value} (ha : VR r a v) {h' : H}
    (e : loadAV i.size (aggD d) a h = .v z h') : h' = h ∧ Gives P r w (Instr.loadAt ty v) z := by
  unfold loadAV at e
  split at e
  · rename_i b o
    obtain ⟨l, hl, rfl⟩ := ha.inv_ptr
    unfold pickR at e
    split at e
    · rename_i vs hvs
      obtain ⟨l', cs, hl', hcs, hlen, hle, hcell⟩ := hr.loads hvs
      rw [hl] at hl'; injection hl' with hl'; subst hl'
      unfold valR at e
      split at e
      · rename_i x hx
        obtain ⟨rfl, rfl⟩ := qr_v e
        refine ⟨rfl, ?_⟩
        have hcell' : ∀ (j : Nat) (u : Value), cs[j]? = some u → w.cell? ((Addr.mk l.blk (o + l.sh) none).add j) = some u := by
          intro j u hu; rw [add_addr]; exact hcell j u hu
        rcases pickCells_ok hcs hx with ⟨hag, rfl⟩ | ⟨hag, x1, v1, e1, e2, rfl, hr1⟩
        · refine ⟨.agg cs.toArray, ?_, .agg _ _ (by simpa using hcs)⟩
          unfold Instr.loadAt loadVar
          simp only [Sem.run_bind, run_sureAddr, Result.andThen_ok, run_isAgg hd, hag, if_true, run_size hi]
          have := run_loadCells_list (P := P) w _ cs hcell'
          rw [hlen] at this
          rw [this]; rfl
        · refine ⟨v1, ?_, hr1⟩
          unfold Instr.loadAt loadVar
          simp only [Sem.run_bind, run_sureAddr, Result.andThen_ok, run_isAgg hd, hag, Bool.false_eq_true, if_false]
          have := hcell 0 v1 (by rw [e2]; rfl)
          simp only [Nat.add_zero] at this
          rw [run_load, this]
      · simp at e
    · simp at e
  · simp at e

theorem stores_notBot {h h' : H} {b o : Nat} {vs : List AV} (e : h.stores b o vs = some h') : H.oneCells vs = true := by
  unfold H.stores H.storesR at e
  split at e
  · obtain ⟨_, e⟩ := bif_some e
    obtain ⟨h2, _⟩ := bif_some e
    simp only [Bool.and_eq_true] at h2
    exact h2.2
  · simp at e
theorem store_ok (hr : Rel P r h w) {ty : TypeId} {i : TypeInfo} (hi : P.info? ty = some i) {a x z : AV} {va vx : Value} (ha : VR r a va) (hx : VR r x vx) {h' : H}
    (e : storeAV i.size a x h = .v z h') : MemOf P r h w (do Instr.storeAt ty va vx; pure Next.skip) z h' := by
  unfold storeAV at e
  split at e
  · rename_i b o
    obtain ⟨l, hl, rfl⟩ := ha.inv_ptr
    obtain ⟨hb, e⟩ := bif_qr e
    unfold doneR at e
    split at e
    · rename_i h1 hs
      obtain ⟨rfl, rfl⟩ := qr_v e
      have hne : x ≠ .bot := by
        rintro rfl
        have := stores_notBot hs
        exact absurd this (by decide)
      obtain ⟨l', hl', hle, hst⟩ := hr.stores hs
      rw [hl] at hl'; injection hl' with hl'; subst hl'
      have hcells := hx.cells hne
      obtain ⟨w', hrun, hrel, hk⟩ := hst _ hcells ⟨l.blk, o + l.sh, none⟩ rfl rfl (fun _ => rfl)
      refine memOf_unit ⟨w', r, ?_, hrel, hk⟩
      unfold Instr.storeAt storeVar
      simp only [Sem.run_bind, run_sureAddr, Result.andThen_ok, run_size hi]
      have hsz : vx.cells.size = i.size := by have := hcells.length; have := beq_iff.1 hb; simp at *; omega
      rw [if_neg (by simpa using hsz)]
      exact hrun
    · simp at e
  · simp at e

/-! ### new things -/
/-- a new row of known cells -/
theorem newRow_ok (hr : Rel P r h w) {vs : List AV} {cs : Array Value} (ty : TypeId) {d : AV} (hd : TyTag d ty) (hv : VRs r vs cs.toList) (es : Nat) {b : Nat} {h' : H}
    (e : h.new (.row vs.length d (T.putList .lf 0 vs) 0 es) = (b, h')) :
    ∃ r', r' b = some ⟨w.heap.size, 0, es, cs.size⟩ ∧ Rel P r' h' (w.alloc (.cells cs ty)) ∧ Keeps r h w r' h' (w.alloc (.cells cs ty)) := by
  have hb : r b = none := by have := H.new_nextOf h (.row vs.length d (T.putList .lf 0 vs) 0 es) hr.pos.2; rw [e] at this; have this : b = h.nextOf := this; rw [this]; exact hr.fresh
  have hle := Rho.le_upd r b ⟨w.heap.size, 0, es, cs.size⟩ hb
  obtain ⟨h1, h2⟩ := hr.new _ (.cells cs ty) es cs.size rfl e ⟨(newRow_rowR hd hv es cs.size rfl).mono hle, fun _ => rfl⟩
  exact ⟨_, Rho.upd_same r b _, h1, h2⟩
theorem ptr_new {r' : Rho} {b : Nat} {es n : Nat} (hb : r' b = some ⟨w.heap.size, 0, es, n⟩) : VR r' (.ptr b 0) (.pointer (some ⟨w.heap.size, 0, none⟩)) := by
  have := VR.ptr (r := r') b 0 _ hb
  simpa using this
theorem ptrOf_ok (hr : Rel P r h w) {vs : List AV} {cs : Array Value} (ty : TypeId) {d : AV} (hd : TyTag d ty) (hv : VRs r vs cs.toList) {z : AV} {h' : H} (e : ptrOf (h.newRow d vs) = .v z h') :
    ∃ r', VR r' z (.pointer (some ⟨w.heap.size, 0, none⟩)) ∧ Rel P r' h' (w.alloc (.cells cs ty)) ∧ Keeps r h w r' h' (w.alloc (.cells cs ty)) := by
  unfold H.newRow at e
  cases hn : h.new (.row vs.length d (T.putList .lf 0 vs) 0 0) with
  | mk b h1 =>
  rw [hn] at e
  obtain ⟨rfl, rfl⟩ := qr_v (show QR.v (.ptr b 0) h1 = .v z h' from e)
  obtain ⟨r', hb, h2, h3⟩ := newRow_ok hr ty hd hv 0 hn
  exact ⟨r', ptr_new hb, h2, h3⟩
theorem run_newVar (ty : TypeId) (v : Value) : (newVar ty v).run P w = .ok ⟨w.heap.size, 0, none⟩ (w.alloc (.cells v.cells ty)) := rfl
theorem alloc_ok (hr : Rel P r h w) {ty : TypeId} {i : TypeInfo} {zv : Value} {zx : AV} (hi : P.info? ty = some i) (hz : i.zero = some zv) (hzx : ofValue zv = some zx) {z : AV} {h' : H}
    (e : ptrOf (h.newRow (tagA ty) zx.cells) = .v z h') : MemV P r h w (Instr.alloc ty true (.tuple #[])) z h' := by
  have hzr := ofValue_vr (r := r) hzx
  obtain ⟨r', h1, h2, h3⟩ := ptrOf_ok hr ty tagA_ty (hzr.1.cells hzr.2) e
  refine ⟨_, _, r', ?_, h1, h2, h3⟩
  unfold Instr.alloc
  rw [Sem.run_bind, run_zero hi hz]
  rfl
theorem box_ok (hr : Rel P r h w) (ty : TypeId) {x z : AV} {v : Value} (hx : VR r x v) {h' : H} (e : boxAV x h = .v z h') : MemV P r h w (Instr.box ty v) z h' := by
  unfold boxAV at e
  have hne : x ≠ .bot := by rintro rfl; simp [isBot] at e
  have : isBot x = false := by cases x <;> first | rfl | exact absurd rfl hne
  rw [this] at e
  simp only [cond_false] at e
  obtain ⟨r', h1, h2, h3⟩ := ptrOf_ok hr ty bot_tag (hx.cells hne) e
  exact ⟨_, _, r', rfl, h1, h2, h3⟩

theorem len_ok (hr : Rel P r h w) {ty : TypeId} {k : LK} {o : AOpd} {x z : AV} {v : Value} (hx : VR r x v) (hc : cLen P ty o = .m1 (.len k o)) {h' : H} (e : mkLen (lenK k x h) h = .v z h')
    (ts : Array TypeId) (as : Array Value) (ht : ts[0]? = some ty) (hv : as[0]? = some v) (ty' : TypeId) : h' = h ∧ Gives P r w (Builtin.len_ ts ty' as) z := by
  unfold mkLen at e
  split at e
  · rename_i n hn
    rw [mkInt_eq] at e
    obtain ⟨rfl, rfl⟩ := qr_v (show QR.v (.int .i64 (.ofNat n)) h = .v z h' from e)
    refine ⟨rfl, ?_⟩
    have fin : (Builtin.len_ ts ty' as).run P w = .ok (goInt n) w → Gives P r w (Builtin.len_ ts ty' as) (.int .i64 (.ofNat n)) := fun h => ⟨_, h, .int _ _⟩
    apply fin
    unfold cLen at hc
    obtain ⟨d, hd, hc⟩ := withU_eq hc (by simp)
    unfold lenK at hn
    cases d with
    | array a b => simp at hc
    | pointer a =>
      exfalso
      obtain ⟨d', _, hc⟩ := withU_eq hc (by simp)
      split at hc <;> simp at hc
    | string =>
      simp at hc; subst hc
      simp only at hn
      split at hn
      · obtain ⟨s, rfl, hs⟩ := hx.inv_str
        injection hn with hn; subst hn
        unfold Builtin.len_
        simp only [ht, hv, Sem.run_bind, run_und hd, Result.andThen_ok, Sem.run_pure]
        rw [size_eq, hs]
      · simp at hn
    | slice a =>
      simp at hc; subst hc
      simp only at hn
      split at hn
      · have := hx.inv_nils; subst this
        injection hn with hn; subst hn
        unfold Builtin.len_
        simp only [ht, hv, Sem.run_bind, run_und hd, Result.andThen_ok, Sem.run_pure]
      · rename_i b o n' c
        injection hn with hn; subst hn
        have : ∃ a c', v = .slice a n' c' := by cases hx <;> exact ⟨_, _, rfl⟩
        obtain ⟨a, c', rfl⟩ := this
        unfold Builtin.len_
        simp only [ht, hv, Sem.run_bind, run_und hd, Result.andThen_ok, Sem.run_pure]
      · simp at hn
    | map a b =>
      simp at hc; subst hc
      simp only at hn
      split at hn
      · have := hx.inv_nilm; subst this
        injection hn with hn; subst hn
        unfold Builtin.len_
        simp only [ht, hv, Sem.run_bind, run_und hd, Result.andThen_ok, Sem.run_pure]
        rfl
      · rename_i m
        obtain ⟨l, hl, rfl⟩ := hx.inv_map
        split at hn
        · rename_i es c hm
          injection hn with hn; subst hn
          obtain ⟨l', hl', _, es', hes, hesr⟩ := hr.obj m _ hm (H.alive_zero h)
          rw [hl] at hl'; injection hl' with hl'; subst hl'
          have hlen : ∀ (l : List (AV × AV × Nat)) (m : List MapEntry), EsR r l m → l.length = m.length := by
            intro l
            induction l with
            | nil => intro m hm; cases m with
              | nil => rfl
              | cons _ _ => exact hm.elim
            | cons x l ih => intro m hm; cases m with
              | nil => obtain ⟨_, _, _⟩ := x; exact hm.elim
              | cons _ m => obtain ⟨_, _, _⟩ := x; simp [ih m hm.2.2.2]
          unfold Builtin.len_
          simp only [ht, hv, Sem.run_bind, run_und hd, Result.andThen_ok]
          have hg : (getObj l.blk).run P w = .ok (.map es' c) w := by
            show (Sem.getObj l.blk Sem.pure).run P w = _
            simp only [Sem.run, hes]
          rw [hg]
          simp only [Result.andThen_ok, Sem.run_pure]
          rw [hlen es es'.toList hesr, Array.length_toList]
        · simp at hn
      · simp at hn
    | _ => simp at hc
  · simp at e
end
end Go.AM
namespace Go.AM
open Go
variable [Env]
section
variable {P : Program} {r : Rho} {w : World} {h : H} {t : TM} {ρ : Operand → Value}

/-! ### rows of zeros -/
theorem replList_zero (z : List AV) : replList z 0 = [] := rfl
theorem replList_succ (z : List AV) (n : Nat) : replList z (n + 1) = z ++ replList z n := rfl
theorem replList_length (z : List AV) : ∀ n, (replList z n).length = n * z.length
  | 0 => by simp [replList_zero]
  | n + 1 => by rw [replList_succ, List.length_append, replList_length z n]; rw [Nat.succ_mul]; omega
theorem replList_get (z : List AV) (hz : 0 < z.length) : ∀ n i, i < n * z.length → (replList z n)[i]? = z[i % z.length]?
  | 0, i, h => by omega
  | n + 1, i, h => by
    rw [replList_succ]
    by_cases hi : i < z.length
    · rw [List.getElem?_append_left hi, Nat.mod_eq_of_lt hi]
    · rw [List.getElem?_append_right (by omega), replList_get z hz n (i - z.length) (by rw [Nat.succ_mul] at h; omega)]
      congr 1
      exact (Nat.mod_eq_sub_mod (by omega)).symm
/-- the cells that the model lays for so many zeros -/
def zeros (zero : Array Value) (n : Nat) : Array Value := (Array.range n).map (zero[· % zero.size]!)
theorem zeros_size (zero : Array Value) (n : Nat) : (zeros zero n).size = n := by simp [zeros]
theorem zeros_get (zero : Array Value) (n i : Nat) (hi : i < n) (hz : 0 < zero.size) : (zeros zero n)[i]? = zero[i % zero.size]? := by
  have hlt : i % zero.size < zero.size := Nat.mod_lt _ hz
  simp only [zeros, Array.getElem?_map]
  rw [show (Array.range n)[i]? = some i from by simp [hi]]
  simp only [Option.map_some]
  rw [getElem!_pos zero _ hlt, getElem?_pos zero _ hlt]
theorem zeros_vrs {zs : List AV} {zero : Array Value} (hz : VRs r zs zero.toList) (h0 : 0 < zs.length) (n : Nat) : VRs r (replList zs n) (zeros zero (n * zs.length)).toList := by
  have hl := hz.length
  have hl' : zs.length = zero.size := by simpa using hl
  refine VRs_of_get _ _ ?_ ?_
  · have e1 : (zeros zero (n * zs.length)).toList.length = n * zs.length := by rw [Array.length_toList]; exact zeros_size _ _
    rw [replList_length, e1]
  · intro i x v hx hv
    have hi : i < n * zs.length := by have := (List.getElem?_eq_some_iff.1 hx).1; rwa [replList_length] at this
    rw [replList_get zs h0 n i hi] at hx
    have hv : (zeros zero (n * zs.length))[i]? = some v := by simpa using hv
    rw [zeros_get zero _ i hi (by omega), ← hl'] at hv
    obtain ⟨u, hu, hur⟩ := hz.get' _ _ hx
    have : zero.toList[i % zs.length]? = some v := by simpa using hv
    rw [hu] at this; injection this with this; subst this
    exact hur

theorem sliceOf_ok (hr : Rel P r h w) {vs : List AV} {cs : Array Value} (ty : TypeId) (hv : VRs r vs cs.toList) (len : Nat) {z : AV} {h' : H} (c : Nat) (e : sliceOf len (some c) (h.newRow .bot vs) = .v z h') :
    ∃ r', VR r' z (.slice (some ⟨w.heap.size, 0, none⟩) len c) ∧ Rel P r' h' (w.alloc (.cells cs ty)) ∧ Keeps r h w r' h' (w.alloc (.cells cs ty)) := by
  unfold H.newRow at e
  cases hn : h.new (.row vs.length .bot (T.putList .lf 0 vs) 0 0) with
  | mk b h1 =>
  rw [hn] at e
  obtain ⟨rfl, rfl⟩ := qr_v (show QR.v (.slice b 0 len (some c)) h1 = .v z h' from e)
  obtain ⟨r', hb, h2, h3⟩ := newRow_ok hr ty bot_tag hv 0 hn
  refine ⟨r', ?_, h2, h3⟩
  have := VR.sliceC (r := r') b 0 len c _ hb
  simpa using this
theorem frozen_alloc (cs : Array Value) (ty : TypeId) (fz : Nat × Nat) (i : Nat) : (w.alloc (.cells cs ty fz)).frozen? ⟨w.heap.size, i, none⟩ = (decide (fz.1 ≤ i) && decide (i < fz.2)) := by
  unfold World.frozen?; rw [heap_alloc_new]
theorem cell_alloc (cs : Array Value) (ty : TypeId) (fz : Nat × Nat) (i : Nat) : (w.alloc (.cells cs ty fz)).cell? ⟨w.heap.size, i, none⟩ = cs[i]? := by
  unfold World.cell?; rw [heap_alloc_new]; rfl
/-- an open row: its elements have es cells, and cap of them lie in memory, of which the first len are told -/
theorem sliceOpen_ok (hr : Rel P r h w) {vs : List AV} {cs : Array Value} (ty : TypeId) (fz : Nat × Nat) (hfz : ∀ i, i < cs.size → ¬ (fz.1 ≤ i ∧ i < fz.2)) (hv : VRs r vs (cs.toList.take vs.length)) {d : AV} (hd : ∀ n, d = tagD n → ty = n) (hd' : ∀ n, d ≠ tagA n) {es len cap : Nat} (hes : 0 < es) (hlen : vs.length = len * es)
    (hcs : cs.size = cap * es) (hle : len ≤ cap) {z : AV} {h' : H} (e : sliceOf len none (h.newOpen d es vs) = .v z h') :
    ∃ r', VR r' z (.slice (some ⟨w.heap.size, 0, none⟩) len cap) ∧ Rel P r' h' (w.alloc (.cells cs ty fz)) ∧ Keeps r h w r' h' (w.alloc (.cells cs ty fz)) := by
  unfold H.newOpen at e
  cases hn : h.new (.row vs.length d (T.putList .lf 0 vs) 0 es) with
  | mk b h1 =>
  rw [hn] at e
  obtain ⟨rfl, rfl⟩ := qr_v (show QR.v (.slice b 0 len none) h1 = .v z h' from e)
  have hb : r b = none := by have := H.new_nextOf h (.row vs.length d (T.putList .lf 0 vs) 0 es) hr.pos.2; rw [hn] at this; have this : b = h.nextOf := this; rw [this]; exact hr.fresh
  have hle' := Rho.le_upd r b ⟨w.heap.size, 0, es, cs.size⟩ hb
  have hls : len * es ≤ cap * es := Nat.mul_le_mul_right es hle
  have hrow : RowR r (w.alloc (.cells cs ty fz)) ⟨w.heap.size, 0, es, cs.size⟩ vs.length d (T.putList .lf 0 vs) := by
    refine ⟨by show vs.length + 0 ≤ cs.size; omega, ⟨ty, ?_, fun n h => ⟨hd n h, rfl⟩, fun n h => (hd' n h).elim⟩, ?_, ?_⟩
    · unfold World.shape?; rw [heap_alloc_new]
    · intro i hi
      rw [frozen_alloc]
      have := hfz i hi
      cases h1 : decide (fz.1 ≤ i) <;> cases h2 : decide (i < fz.2) <;> simp at * <;> omega
    · intro i hi
      have hx : vs[i]? = some vs[i] := List.getElem?_eq_getElem hi
      obtain ⟨v, hv', hr'⟩ := hv.get' i _ hx
      refine ⟨v, ?_, ?_⟩
      · rw [List.getElem?_take] at hv'
        rw [if_pos hi] at hv'
        rw [cell_alloc]; simpa using hv'
      · unfold cellAt
        rw [T.get_putList]
        simp [hi]; exact hr'
  obtain ⟨h2, h3⟩ := hr.new _ (.cells cs ty fz) es cs.size rfl hn ⟨hrow.mono hle', fun _ => rfl⟩
  refine ⟨_, ?_, h2, h3⟩
  exact VR.sliceO b 0 len cap ⟨w.heap.size, 0, none⟩ ⟨w.heap.size, 0, es, cs.size⟩ (Rho.upd_same r b _) hes hle (by show 0 + 0 + cap * es = cs.size; omega) rfl rfl (fun _ => rfl)

theorem buildSlice_ok (hE : EnvR r t ρ) (hr : Rel P r h w) {ty : TypeId} {len : Nat} {parts : Array (Nat × Operand)} {zl : List AV} {n : Nat} {ps : List (Nat × Nat × AOpd)} (hc : cBuildSlice P ty len parts = .m2 (.buildSlice zl n ps)) {z : AV} {h' : H}
    (e : buildSliceAV zl n (evParts t ps) h = .v z h') : MemV P r h w (Instr.buildSlice ty len (parts.map fun x => (x.1, ρ x.2))) z h' := by
  unfold cBuildSlice at hc
  obtain ⟨d, hd, hc⟩ := withU_eq hc (by simp)
  cases d with
  | slice el =>
    simp only at hc
    obtain ⟨i, hi, hc⟩ := withT_eq hc (by simp)
    obtain ⟨zv, zx, hz, hzx, hc⟩ := zeroI_eq hc (by simp)
    split at hc
    case isFalse => simp at hc
    rename_i hcond
    obtain ⟨hzl, h0, hbig⟩ := hcond
    simp at hc
    obtain ⟨rfl, rfl, rfl⟩ := hc
    have hzr := ofValue_vr (r := r) hzx
    have hzc := hzr.1.cells hzr.2
    have hzs := zeros_vrs hzc (by omega) len
    unfold buildSliceAV at e
    split at e
    · rename_i cs hcs
      obtain ⟨cells', hf, hcr⟩ := fill_ok _ _ _ _ _ _ (elemPlaces_parts hE i.size parts.toList) hzs hcs
      obtain ⟨r', h1, h2, h3⟩ := sliceOf_ok hr el hcr len len e
      refine ⟨_, _, r', ?_, h1, h2, h3⟩
      have hparts : (parts.map fun x => (x.1, ρ x.2)).toList = parts.toList.map fun x => (x.1, ρ x.2) := Array.toList_map
      unfold Instr.buildSlice
      simp only [Sem.run_bind, run_und hd, Result.andThen_ok, run_size hi]
      rw [if_neg (by omega)]
      by_cases hz0 : len * i.size = 0
      · have hl0 : len = 0 := by
          rcases Nat.mul_eq_zero.1 hz0 with h | h
          · exact h
          · omega
        subst hl0
        have e1 : zeros zv.cells (0 * zx.cells.length) = #[] := by simp [zeros]
        rw [e1] at hf
        simp only [hz0, if_true, Sem.run_bind, Sem.run_pure, Result.andThen_ok, hparts]
        have e2 : ((Array.range 0).map fun x => (#[] : Array Value)[x % (#[] : Array Value).size]!) = #[] := by simp
        rw [e2, hf]
        rfl
      · simp only [if_neg hz0, Sem.run_bind, run_zero hi hz, Sem.run_pure, Result.andThen_ok, hparts]
        have e1 : zeros zv.cells (len * zx.cells.length) = ((Array.range (len * i.size)).map (zv.cells[· % zv.cells.size]!)) := by rw [hzl]; rfl
        rw [← e1, hf]
        rfl
    · simp at e
  | _ => simp at hc

theorem mkMap_ok (hr : Rel P r h w) (ty : TypeId) {z : AV} {h' : H} (e : mapOf (h.new (.map [] 0)) = .v z h') : MemV P r h w (Instr.makeMap ty none) z h' := by
  cases hn : h.new (.map [] 0) with
  | mk b h1 =>
  rw [hn] at e
  obtain ⟨rfl, rfl⟩ := qr_v (show QR.v (.map b) h1 = .v z h' from e)
  obtain ⟨h2, h3⟩ := hr.new (.map [] 0) (.map #[] 0) 0 0 rfl hn ⟨rfl, #[], heap_alloc_new w _, trivial⟩
  exact ⟨.map (some w.heap.size), _, _, rfl, VR.map b ⟨w.heap.size, 0, 0, 0⟩ (Rho.upd_same r b _), h2, h3⟩

theorem toBytes_cells (s : ByteArray) : VRs r (cellsOfBytes s.data.toList) (s.data.map fun b => Value.int .u8 b.toNat).toList := by
  rw [Array.toList_map]
  unfold cellsOfBytes
  induction s.data.toList with
  | nil => exact .nil
  | cons b l ih => exact .cons _ _ _ _ (.int _ _) ih
theorem cellsOfBytes_length (l : List UInt8) : (cellsOfBytes l).length = l.length := by simp [cellsOfBytes]
theorem freeze_alloc (w : World) (cs : Array Value) (ty : TypeId) (n : Nat) : (w.alloc (.cells cs ty)).freeze ⟨w.heap.size, n, none⟩ 1 = w.alloc (.cells cs ty (n, n + 1)) := by
  unfold World.freeze World.alloc
  simp only [Nat.one_ne_zero, if_false]
  congr 1
  apply Array.ext'
  apply List.ext_getElem?
  intro i
  simp only [Array.getElem?_toList, Array.getElem?_modify, Array.getElem?_push]
  by_cases hi : i = w.heap.size
  · subst hi; simp
  · have : ¬ w.heap.size = i := fun e => hi e.symm
    simp [hi, this]
theorem Rel.drawn (hr : Rel P r h w) : Rel P r h { w with drawn := w.drawn + 1 } := hr.drew
theorem Keeps.drawn {r' : Rho} {h' : H} {w' : World} (k : Keeps r h { w with drawn := w.drawn + 1 } r' h' w') : Keeps r h w r' h' w' := (Keeps.drew r h w).trans k
/-- the bytes of a text, and zeros behind them -/
def byteRow (s : ByteArray) (cap : Nat) : Array Value := (s.data.map fun b => Value.int .u8 b.toNat) ++ Array.replicate (cap - s.size) (Value.int .u8 0)
theorem byteRow_size (s : ByteArray) (cap : Nat) (h : s.size ≤ cap) : (byteRow s cap).size = cap := by
  unfold byteRow
  rw [Array.size_append, Array.size_map, Array.size_replicate]
  have : s.data.size = s.size := rfl
  omega
theorem byteRow_take (s : ByteArray) (cap : Nat) : (byteRow s cap).toList.take s.size = (s.data.map fun b => Value.int .u8 b.toNat).toList := by
  unfold byteRow
  have hs : (s.data.map fun b => Value.int .u8 b.toNat).toList.length = s.size := by rw [Array.length_toList, Array.size_map]; rfl
  rw [Array.toList_append, List.take_append_of_le_length (by omega), List.take_of_length_le (by omega)]
theorem run_stringToBytes (P : Program) (w : World) (el : TypeId) (s : ByteArray) : ∃ cap, s.size ≤ cap ∧
    (Conv.stringToBytes el s).run P w = .ok (.slice (some ⟨w.heap.size, 0, none⟩) s.size cap) (w.drew.alloc (.cells (byteRow s cap) el (cap, cap + 1))) := by
  refine ⟨(Question.appendCap s.size 0 el).cut (w.tape w.drawn (.appendCap s.size 0 el)), Nat.le_add_right _ _, ?_⟩
  generalize hcap : (Question.appendCap s.size 0 el).cut (w.tape w.drawn (.appendCap s.size 0 el)) = cap
  have hle : s.size ≤ cap := by rw [← hcap]; exact Nat.le_add_right _ _
  unfold Conv.stringToBytes
  simp only [Sem.run_bind, run_choose, Question.forced, Bool.false_eq_true, if_false, Result.andThen_ok, hcap]
  have hnew : (newRow el ((s.data.map fun b => Value.int .u8 b.toNat) ++ Array.replicate (cap - s.size) (Value.int .u8 0))).run P { w with drawn := w.drawn + 1 } =
      .ok ⟨w.heap.size, 0, none⟩ (w.drew.alloc (.cells (byteRow s cap) el)) := rfl
  rw [hnew]
  simp only [Result.andThen_ok]
  have hmark : (markStringish ⟨w.heap.size, 0, none⟩).run P (w.drew.alloc (.cells (byteRow s cap) el)) = .ok () (w.drew.alloc (.cells (byteRow s cap) el (cap, cap + 1))) := by
    unfold markStringish
    have hsh : World.shape? (w.drew.alloc (.cells (byteRow s cap) el)) w.heap.size = some (el, cap) := by
      unfold World.shape?
      have := heap_alloc_new w.drew (.cells (byteRow s cap) el)
      have e : w.drew.heap.size = w.heap.size := rfl
      rw [e] at this
      rw [this]
      simp [byteRow_size s cap hle]
    simp only [Sem.run_bind, run_shape, Result.andThen_ok, hsh, run_freeze]
    have := freeze_alloc w.drew (byteRow s cap) el cap
    have e : w.drew.heap.size = w.heap.size := rfl
    rw [e] at this
    rw [this]
  rw [hmark]
  rfl
theorem Keeps.of_drew {r' : Rho} {h' : H} {w' : World} (k : Keeps r h w.drew r' h' w') : Keeps r h w r' h' w' := (Keeps.drew r h w).trans k
theorem toBytes_ok (hr : Rel P r h w) {s d : TypeId} {o : AOpd} {x z : AV} {v : Value} (hx : VR r x v) (hc : cConvert P s d o = .m2 (.toBytes o)) {h' : H} (e : toBytesAV x h = .v z h') : MemV P r h w (convert s d v) z h' := by
  unfold cConvert at hc
  obtain ⟨a, ha, hc⟩ := withU_eq hc (by simp)
  obtain ⟨b, hb, hc⟩ := withU_eq hc (by simp)
  have hab : a = .string ∧ ∃ el, b = .slice el ∧ P.underlying el = some (.int .u8) := by
    cases a <;> cases b <;> simp only at hc <;> first
      | (simp at hc; done)
      | (obtain ⟨q, hq, hc⟩ := withU_eq hc (by simp); split at hc <;> first | exact ⟨rfl, _, rfl, hq⟩ | (simp at hc; done))
  obtain ⟨rfl, el, rfl, hq⟩ := hab
  unfold toBytesAV at e
  split at e
  · obtain ⟨sb, rfl, rfl⟩ := hx.inv_str
    obtain ⟨cap, hcap, hrun⟩ := run_stringToBytes P w el sb
    have hcsz := byteRow_size sb cap hcap
    have hlen : (cellsOfBytes sb.data.toList).length = sb.size * 1 := by rw [cellsOfBytes_length, size_eq]; omega
    have e : sliceOf sb.size none (h.newOpen .bot 1 (cellsOfBytes sb.data.toList)) = .v z h' := by rw [size_eq]; exact e
    obtain ⟨r', h1, h2, h3⟩ := sliceOpen_ok (w := w.drew) hr.drew el (cap, cap + 1) (by intro i hi; rw [hcsz] at hi; simp; omega) (by
        rw [hlen, Nat.mul_one, byteRow_take]; exact toBytes_cells sb) (d := .bot) (fun n h => by simp [tagD] at h) (fun n h => by simp [tagA] at h) (by omega) hlen (by omega) hcap e
    refine ⟨_, _, r', ?_, h1, h2, Keeps.of_drew h3⟩
    unfold convert
    simp only [Sem.run_bind, run_und ha, run_und hb, Result.andThen_ok, run_und hq]
    exact hrun
  · simp at e
end
end Go.AM
namespace Go.AM
open Go
variable [Env]
section
variable {P : Program} {r : Rho} {w : World} {h : H} {t : TM} {ρ : Operand → Value}

theorem wrap_small {n : Nat} (hn : n ≤ 1099511627776) : IntKind.i64.wrap (Int.ofNat n) = Int.ofNat n := by
  rw [← wrapQ_eq]
  have : Nat.ble n 9223372036854775807 = true := ble_iff.2 (by omega)
  simp [wrapQ, this]
theorem mkSlice_ok (hr : Rel P r h w) {ty : TypeId} {l c : AOpd} {zl : List AV} {bytes : Nat} (hc : cMakeSlice P ty l c = .m2 (.mkSlice zl bytes l c)) {x y z : AV} {vx vy : Value} (hx : VR r x vx) (hy : VR r y vy) {h' : H}
    (e : mkSliceAV zl bytes x y h = .v z h') : MemV P r h w (Instr.makeSlice ty vx vy) z h' := by
  unfold cMakeSlice at hc
  obtain ⟨d, hd, hc⟩ := withU_eq hc (by simp)
  cases d with
  | slice el =>
    simp only at hc
    obtain ⟨i, hi, hc⟩ := withT_eq hc (by simp)
    obtain ⟨zv, zx, hz, hzx, hc⟩ := zeroI_eq hc (by simp)
    split at hc
    case isFalse => simp at hc
    rename_i hcond
    obtain ⟨hzl, h0, hna⟩ := hcond
    simp at hc
    obtain ⟨rfl, rfl⟩ := hc
    have hzr := ofValue_vr (r := r) hzx
    have hzc := hzr.1.cells hzr.2
    unfold mkSliceAV at e
    split at e
    · rename_i n m
      have := hx.inv_int; have := hy.inv_int; subst_vars
      obtain ⟨hb, e⟩ := bif_qr e
      simp only [Bool.and_eq_true, Nat.ble_eq] at hb
      obtain ⟨hnm, hbig, hm⟩ := hb
      have hbig : i.bytes * m ≤ 1099511627776 := hbig
      have hrow : ∃ r', VR r' z (.slice (some ⟨w.heap.size, 0, none⟩) n m) ∧ Rel P r' h' (w.alloc (.cells (zeros zv.cells (m * i.size)) el)) ∧ Keeps r h w r' h' (w.alloc (.cells (zeros zv.cells (m * i.size)) el)) := by
        rw [← hzl]
        unfold mkSliceK at e
        split at e
        · rename_i q hq
          rw [hq] at hzc hzl
          rw [hq]
          -- one cell an element
          cases hn : h.new (.row m q .lf 0 0) with
          | mk b h1 =>
          rw [hn] at e
          obtain ⟨rfl, rfl⟩ := qr_v (show QR.v (.slice b 0 n (some m)) h1 = .v z h' from e)
          have hb : r b = none := by have := H.new_nextOf h (.row m q .lf 0 0) hr.pos.2; rw [hn] at this; have this : b = h.nextOf := this; rw [this]; exact hr.fresh
          have hle' := Rho.le_upd r b ⟨w.heap.size, 0, 0, (zeros zv.cells (m * [q].length)).size⟩ hb
          have hzs : zv.cells.size = 1 := by have := hzc.length; simpa using this.symm
          have hrow : RowR r (w.alloc (.cells (zeros zv.cells (m * [q].length)) el)) ⟨w.heap.size, 0, 0, (zeros zv.cells (m * [q].length)).size⟩ m q .lf := by
            refine ⟨by show m + 0 ≤ (zeros zv.cells (m * [q].length)).size; rw [zeros_size]; simp, ⟨el, ?_, ?_⟩, ?_, ?_⟩
            · unfold World.shape?; rw [heap_alloc_new]
            · exact ⟨by rintro n rfl; rw [hq] at hna; simp [tagD, notAgg] at hna, by rintro n rfl; rw [hq] at hna; simp [tagA, notAgg] at hna⟩
            · intro j _; rw [frozen_alloc]; simp
            · intro j hj
              obtain ⟨u, hu, hur⟩ := hzc.get' 0 q rfl
              refine ⟨u, ?_, ?_⟩
              · rw [cell_alloc]
                show (zeros zv.cells (m * [q].length))[j + 0]? = some u
                rw [zeros_get _ _ _ (by simp; exact hj) (by omega), hzs, Nat.mod_one]
                simpa using hu
              · show VR r ((T.get .lf j).getD q) u
                rw [T.get_lf]; exact hur
          obtain ⟨h2, h3⟩ := hr.new _ (.cells (zeros zv.cells (m * [q].length)) el) 0 (zeros zv.cells (m * [q].length)).size rfl hn ⟨hrow.mono hle', fun h => absurd h (by omega)⟩
          refine ⟨_, ?_, h2, h3⟩
          have := VR.sliceC (r := r.upd b ⟨w.heap.size, 0, 0, (zeros zv.cells (m * [q].length)).size⟩) b 0 n m _ (Rho.upd_same r b _)
          simpa using this
        · have hzs := zeros_vrs hzc (by omega) m
          exact sliceOf_ok hr el hzs n m e
      obtain ⟨r', h1, h2, h3⟩ := hrow
      refine ⟨_, _, r', ?_, h1, h2, h3⟩
      unfold Instr.makeSlice
      simp only [Sem.run_bind, run_und hd, Result.andThen_ok, run_asInt, run_info hi]
      rw [wrap_small hm, wrap_small (Nat.le_trans hnm hm)]
      have c1 : (decide ((Int.ofNat m) < 0) || decide ((i.bytes : Int) * Int.ofNat m > 2 ^ 48)) = false := by
        have q1 : ¬ (Int.ofNat m < 0) := by have := Int.natCast_nonneg m; exact fun h => by have : (m : Int) < 0 := h; omega
        have q2 : ¬ ((i.bytes : Int) * Int.ofNat m > 2 ^ 48) := by
          have e : (i.bytes : Int) * Int.ofNat m = ((i.bytes * m : Nat) : Int) := (Int.natCast_mul i.bytes m).symm
          have h1 : ((i.bytes * m : Nat) : Int) ≤ (1099511627776 : Nat) := Int.ofNat_le.2 hbig
          have h2 : (2 : Int) ^ 48 = 281474976710656 := by decide
          rw [e, h2]; omega
        have d1 : decide ((Int.ofNat m) < 0) = false := decide_eq_false q1
        have d2 : decide ((i.bytes : Int) * Int.ofNat m > 2 ^ 48) = false := decide_eq_false q2
        rw [d1, d2]; rfl
      have c2 : decide ((Int.ofNat n) < 0) = false := decide_eq_false (fun h => by have : (n : Int) < 0 := h; omega)
      have c3 : decide (Int.ofNat n > Int.ofNat m) = false := decide_eq_false (fun h => by have : (n : Int) > (m : Int) := h; omega)
      rw [if_neg (by rw [c1, c2, c3]; simp)]
      simp only [Sem.run_bind, run_askRoom, Result.andThen_ok, run_size hi]
      have hmn : (Int.ofNat m).toNat = m := rfl
      have hnn : (Int.ofNat n).toNat = n := rfl
      simp only [hmn, hnn]
      by_cases hz0 : m * i.size = 0
      · simp only [hz0, if_true, Sem.run_bind, Sem.run_pure, Result.andThen_ok, newRow, run_newObj]
        have e1 : zeros zv.cells 0 = #[] := by simp [zeros]
        have e2 : ((Array.range 0).map fun x => (#[] : Array Value)[x % (#[] : Array Value).size]!) = #[] := by simp
        rw [e1, e2]
        rfl
      · simp only [if_neg hz0, Sem.run_bind, run_zero hi hz, Sem.run_pure, Result.andThen_ok, newRow, run_newObj]
        rfl
    · simp at e
  | _ => simp at hc

/-! ### slices of slices -/
theorem cSlice_sl {ty : TypeId} {o : AOpd} {lo hi mx : Option AOpd} {size : Nat} (hc : cSlice P ty o lo hi mx = .m2 (.sliceSl size o lo hi mx)) :
    ∃ el i, P.underlying ty = some (.slice el) ∧ P.info? el = some i ∧ size = i.size ∧ 0 < size := by
  unfold cSlice at hc
  obtain ⟨d, hd, hc⟩ := withU_eq hc (by simp)
  cases d with
  | slice el =>
    simp only at hc
    obtain ⟨i, hi, hc⟩ := withT_eq hc (by simp)
    split at hc
    · simp at hc; subst hc; exact ⟨el, i, hd, hi, rfl, by assumption⟩
    · simp at hc
  | array n e => simp only at hc; obtain ⟨i, hi, hc⟩ := withT_eq hc (by simp); simp at hc
  | _ => simp at hc
theorem sliceSl_ok (hr : Rel P r h w) {ty el : TypeId} {i : TypeInfo} (hu : P.underlying ty = some (.slice el)) (hi : P.info? el = some i) (h0 : 0 < i.size) {x z : AV} {v : Value} (hx : VR r x v) {lo hi' mx : Option AV} {vl vh vm : Option Value}
    (hl : OptR r lo vl) (hh : OptR r hi' vh) (hm : OptR r mx vm) {h' : H} (e : sliceSlAV i.size x lo hi' mx h = .v z h') : h' = h ∧ Gives P r w (Instr.sliceAt ty v vl vh vm) z := by
  have at_ : ∀ (a : Option Addr) (n c : Nat), Instr.sliceAt ty (.slice a n c) vl vh vm = Instr.sliceAt ty (.slice a n c) vl vh vm := fun _ _ _ => rfl
  have run_ : ∀ (a : Option Addr) (n c l h1 m : Nat), (Instr.sliceBounds true n c vl vh vm).run P w = .ok (l, h1, m) w →
      (Instr.sliceAt ty (.slice a n c) vl vh vm).run P w = .ok (.slice (if m = l then a else a.map (·.add (l * i.size))) (h1 - l) (m - l)) w := by
    intro a n c l h1 m hb
    unfold Instr.sliceAt
    simp only [Sem.run_bind, run_und hu, Result.andThen_ok]
    unfold Instr.slice
    simp only [Sem.run_bind, run_und hu, Result.andThen_ok, hb, run_size hi]
    rfl
  unfold sliceSlAV at e
  split at e
  · -- a known capacity
    rename_i b o len c
    obtain ⟨loc, hloc, rfl⟩ := hx.inv_sliceC
    unfold valR at e
    split at e
    · rename_i q hq
      obtain ⟨rfl, rfl⟩ := qr_v e
      refine ⟨rfl, ?_⟩
      unfold sliceCap at hq
      split at hq
      · rename_i l h1 m eb
        injection hq with hq; subst hq
        obtain ⟨hb, hle, hd, hm1, hm2, _⟩ := bounds_ok (P := P) (w := w) hl hh hm eb (cap' := c) (Nat.le_refl _) true
        have hmm : (if mx.isNone then c else m) = m := by
          cases mx with
          | none => simp [hm2 rfl]
          | some _ => rfl
        rw [hmm] at hb
        refine ⟨_, run_ _ _ _ _ _ _ hb, ?_⟩
        have := sliceCap_vr (r := r) (o := o) (l := l) (h := h1) (m := m) (size := i.size) hloc
        by_cases q : m = l
        · simp only [q, if_true] at this ⊢; exact this
        · simp only [q, if_false] at this ⊢; exact this
      · simp at hq
    · simp at e
  · -- an open row
    rename_i b o len
    obtain ⟨loc, a, cap, hloc, rfl, hes, hlc, hcap, hab, has, hao⟩ := hx.inv_sliceO
    split at e
    · rename_i top htop
      unfold topOf at htop
      split at htop
      · rename_i s dd cc k es hobj
        obtain ⟨hbe, htop⟩ := bif_some htop
        injection htop with htop
        simp only [Bool.and_eq_true] at hbe
        obtain ⟨hlv, hbe⟩ := hbe
        have hbe := beq_iff.1 hbe
        obtain ⟨l', hl', hro, hes'⟩ := hr.obj b _ hobj hlv
        rw [hloc] at hl'; injection hl' with hl'; subst hl'
        have hese : i.size = loc.es := by rw [← hbe]; exact hes' (by omega)
        have hsn : s + loc.sh ≤ loc.n := hro.1
        have htc : top ≤ cap := by
          rw [← htop]
          show (s - o) / i.size ≤ cap
          rw [Nat.div_le_iff_le_mul_add_pred h0, hese, Nat.mul_comm]
          omega
        unfold valR at e
        split at e
        · rename_i q hq
          obtain ⟨rfl, rfl⟩ := qr_v e
          refine ⟨rfl, ?_⟩
          cases hmx : isNone mx with
          | true =>
            rw [hmx] at hq
            simp only [cond_true] at hq
            have hmx' : mx = none := by cases mx with | none => rfl | some _ => simp [isNone] at hmx
            subst hmx'
            unfold sliceOpen at hq
            split at hq
            · rename_i l h1 m eb
              injection hq with hq; subst hq
              obtain ⟨hb, hle, hd, hm1, hm2, _⟩ := bounds_ok (P := P) (w := w) hl hh hm eb (cap' := cap) htc true
              simp only [Option.isNone_none, if_true] at hb
              have hhc : h1 ≤ cap := by rcases hd with hd | hd <;> omega
              refine ⟨_, run_ _ _ _ _ _ _ hb, ?_⟩
              have heq : (o + l * i.size) + loc.sh + (cap - l) * loc.es = loc.n := by
                rw [hese, Nat.sub_mul]
                have : l * loc.es ≤ cap * loc.es := Nat.mul_le_mul_right _ (by omega)
                omega
              by_cases hcl : cap = l
              · rw [if_pos hcl]
                exact .sliceO b (o + l * i.size) (h1 - l) (cap - l) a loc hloc hes (by omega) heq hab has (fun h => by omega)
              · rw [if_neg hcl]
                have haa : a = ⟨loc.blk, o + loc.sh, none⟩ := by
                  cases a with
                  | mk ab ao as => simp at hab has hao; subst hab; subst has; rw [hao (by omega)]
                subst haa
                simp only [Option.map_some, add_off]
                exact .sliceO b (o + l * i.size) (h1 - l) (cap - l) _ loc hloc hes (by omega) heq rfl rfl (fun _ => rfl)
            · simp at hq
          | false =>
            rw [hmx] at hq
            simp only [cond_false] at hq
            cases ht0 : Nat.beq top 0 with
            | true => rw [ht0] at hq; simp at hq
            | false =>
            rw [ht0] at hq
            simp only [cond_false] at hq
            have ht1 : top ≠ 0 := fun e => by rw [beq_iff.2 e] at ht0; exact absurd ht0 (by simp)
            have haa : a = ⟨loc.blk, o + loc.sh, none⟩ := by
              cases a with
              | mk ab ao as => simp at hab has hao; subst hab; subst has; rw [hao (by omega)]
            subst haa
            unfold sliceCap at hq
            split at hq
            · rename_i l h1 m eb
              injection hq with hq; subst hq
              obtain ⟨hb, hle, hd, hm1, hm2, _⟩ := bounds_ok (P := P) (w := w) hl hh hm eb (cap' := cap) htc true
              have hmm : (if mx.isNone then cap else m) = m := by
                cases mx with
                | none => simp [isNone] at hmx
                | some _ => rfl
              rw [hmm] at hb
              refine ⟨_, run_ _ _ _ _ _ _ hb, ?_⟩
              have := sliceCap_vr (r := r) (o := o) (l := l) (h := h1) (m := m) (size := i.size) hloc
              by_cases q : m = l
              · simp only [q, if_true] at this ⊢; exact this
              · simp only [q, if_false] at this ⊢; exact this
            · simp at hq
        · simp at e
      · simp at htop
    · simp at e
  · have := hx.inv_nils; subst this
    split at e
    · rename_i q eb
      obtain ⟨rfl, rfl⟩ := qr_v e
      refine ⟨rfl, ?_⟩
      obtain ⟨l, h1, m⟩ := q
      obtain ⟨hb, hle, hd, hm1, hm2, _⟩ := bounds_ok (P := P) (w := w) hl hh hm eb (cap' := 0) (Nat.le_refl _) true
      have hm0 : m = 0 := by omega
      have hh0 : h1 = 0 := by omega
      have hl0 : l = 0 := by omega
      subst hm0; subst hh0; subst hl0
      refine ⟨_, run_ _ _ _ _ _ _ hb, ?_⟩
      cases mx <;> exact .nils
    · simp at e
  · simp at e

/-! ### bytes to texts, copies, clearing -/
theorem bytesOf_some : ∀ {xs : List AV} {s : List UInt8} {vs : List Value}, bytesOf xs = some s → VRs r xs vs → ∃ ns : List Int, vs = ns.map (Value.int .u8) ∧ s = ns.map fun n => UInt8.ofNat n.toNat
  | [], s, vs, h, hv => by simp [bytesOf] at h; subst h; cases hv; exact ⟨[], rfl, rfl⟩
  | x :: xs, s, vs, h, hv => by
    cases hv with
    | cons _ _ v vs hx hs =>
    unfold bytesOf at h
    split at h
    · rename_i b l hb hl
      injection h with h; subst h
      obtain ⟨ns, rfl, rfl⟩ := bytesOf_some hl hs
      unfold byteOf at hb
      split at hb
      · rename_i n
        injection hb with hb; subst hb
        have := hx.inv_int; subst this
        exact ⟨n :: ns, rfl, rfl⟩
      · simp at hb
    · simp at h
theorem run_bytesToString (P : Program) (w : World) (a : Addr) (ns : List Int) (c : Nat) (hl : (loadCells a ns.length).run P w = .ok (ns.map (Value.int .u8)).toArray w) :
    (Conv.bytesToString (.slice (some a) ns.length c)).run P w = .ok (.string ⟨(ns.map fun n => UInt8.ofNat n.toNat).toArray⟩) w := by
  have key : ∀ (F : Value → ByteArray → Sem (ForInStep ByteArray)), (∀ n s, F (.int .u8 n) s = pure (ForInStep.yield (s.push (UInt8.ofNat n.toNat)))) → ∀ (ns : List Int) (s : ByteArray),
      ((forIn (ns.map (Value.int .u8)) s F).run P w) = .ok ⟨s.data ++ (ns.map fun n => UInt8.ofNat n.toNat).toArray⟩ w := by
    intro F hF ns
    induction ns with
    | nil => intro s; simp
    | cons n ns ih =>
      intro s
      simp only [List.map_cons, List.forIn_cons, Sem.run_bind, hF, Sem.run_pure, Result.andThen_ok]
      rw [ih]
      congr 1
      simp [ByteArray.push]
  unfold Conv.bytesToString
  simp only [Sem.run_bind, hl, Result.andThen_ok]
  rw [← Array.forIn_toList]
  simp only
  rw [key _ (fun _ _ => rfl)]
  simp only [Result.andThen_ok, Sem.run_pure]
  congr 3
  simp [ByteArray.empty, ByteArray.emptyWithCapacity]
  rfl
theorem ofBytes_ok (hr : Rel P r h w) {s d : TypeId} {o : AOpd} {x z : AV} {v : Value} (hx : VR r x v) (hc : cConvert P s d o = .m2 (.ofBytes o)) {h' : H} (e : ofBytesAV x h = .v z h') : h' = h ∧ Gives P r w (convert s d v) z := by
  unfold cConvert at hc
  obtain ⟨a, ha, hc⟩ := withU_eq hc (by simp)
  obtain ⟨b, hb, hc⟩ := withU_eq hc (by simp)
  have hab : b = .string ∧ ∃ el, a = .slice el ∧ P.underlying el = some (.int .u8) := by
    cases a <;> cases b <;> simp only at hc <;> first
      | (simp at hc; done)
      | (obtain ⟨q, hq, hc⟩ := withU_eq hc (by simp); split at hc <;> first | exact ⟨rfl, _, rfl, hq⟩ | (simp at hc; done))
  obtain ⟨rfl, el, rfl, hq⟩ := hab
  have conv_ : ∀ v', (∀ k n, v' ≠ .int k n) → (∀ k n, v' ≠ .float k n) → (∀ k a b, v' ≠ .complex k a b) → (∀ s, v' ≠ .string s) → (convert s d v').run P w = (Conv.bytesToString v').run P w := by
    intro v' h1 h2 h3 h4
    unfold convert
    simp only [Sem.run_bind, run_und ha, run_und hb, Result.andThen_ok, run_und hq]
  unfold ofBytesAV at e
  split at e
  · have := hx.inv_nils; subst this
    obtain ⟨rfl, rfl⟩ := qr_v e
    refine ⟨rfl, .string .empty, ?_, .str .empty⟩
    rw [conv_ _ (by simp) (by simp) (by simp) (by simp)]; rfl
  · rename_i b o n c
    split at e
    · rename_i vs hvs
      obtain ⟨l, cs, hl, hcs, hlen, hle, hcell⟩ := hr.loads hvs
      unfold strR at e
      split at e
      · rename_i st hst
        obtain ⟨rfl, rfl⟩ := qr_v e
        refine ⟨rfl, ?_⟩
        obtain ⟨ns, rfl, rfl⟩ := bytesOf_some hst hcs
        simp at hlen
        have hv : ∃ a' c', v = .slice (some a') n c' ∧ (0 < n → a' = ⟨l.blk, o + l.sh, none⟩) := by
          cases c with
          | some c => obtain ⟨l', hl', rfl⟩ := hx.inv_sliceC; rw [hl] at hl'; injection hl' with hl'; subst hl'; exact ⟨_, _, rfl, fun _ => rfl⟩
          | none =>
            obtain ⟨l', a', cap, hl', rfl, _, h2, _, h4, h5, h6⟩ := hx.inv_sliceO
            rw [hl] at hl'; injection hl' with hl'; subst hl'
            refine ⟨_, _, rfl, fun hn => ?_⟩
            cases a' with
            | mk ab ao as => simp at h4 h5 h6; subst h4; subst h5; rw [h6 (by omega)]
        obtain ⟨a', c', rfl, ha'⟩ := hv
        refine ⟨.string ⟨(ns.map fun n => UInt8.ofNat n.toNat).toArray⟩, ?_, ?_⟩
        · rw [conv_ _ (by simp) (by simp) (by simp) (by simp), ← hlen]
          refine run_bytesToString P w a' ns c' ?_
          by_cases hn : 0 < n
          · rw [ha' hn]
            have := run_loadCells_list (P := P) w ⟨l.blk, o + l.sh, none⟩ (ns.map (Value.int .u8)) (by intro j u hu; rw [add_addr]; exact hcell j u hu)
            simpa using this
          · have : ns = [] := List.length_eq_zero_iff.1 (by omega)
            subst this; rfl
        · have := VR.str (r := r) ⟨(ns.map fun n => UInt8.ofNat n.toNat).toArray⟩
          simpa using this
      · simp at e
    · simp at e
  · simp at e
end
end Go.AM
