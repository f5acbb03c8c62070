/- What the lesser machine says of bodies holds of the model. -/
import Derived.Test.YtnedikjioliodaaGreatDoorMb2
import Derived.Maps.RangeRun
set_option linter.all false
namespace Go.AM
open Go
variable [Env]
section
variable {P : Program} {r : Rho} {w : World} {h : H} {t : TM} {ρ : Operand → Value}

/-! ### the cells of a slice or a text, for copies and appends -/
theorem lenAV_ok {x : AV} {v : Value} (hx : VR r x v) {n : Nat} (e : lenAV x = some n) : (Builtin.lenOf v).run P w = .ok n w := by
  unfold lenAV at e
  split at e
  · obtain ⟨s, rfl, hs⟩ := hx.inv_str
    injection e with e; subst e
    show Result.ok s.size w = _
    rw [size_eq, hs]
  · have := hx.inv_nils; subst this; injection e with e; subst e; rfl
  · injection e with e; subst e
    obtain ⟨a, n', c, rfl⟩ : ∃ a n' c, v = .slice a n' c := hx.inv_slice
    cases hx <;> rfl
  · simp at e
/-- a slice's place in memory, where it has elements -/
theorem slice_place {b o n : Nat} {c : Option Nat} {v : Value} (hx : VR r (.slice b o n c) v) : ∃ l a cap, r b = some l ∧ v = .slice (some a) n cap ∧ (0 < n → a = ⟨l.blk, o + l.sh, none⟩) ∧ a.block = l.blk ∧ a.spot = none := by
  cases c with
  | some c => obtain ⟨l, hl, rfl⟩ := hx.inv_sliceC; exact ⟨l, _, _, hl, rfl, fun _ => rfl, rfl, rfl⟩
  | none =>
    obtain ⟨l, a, cap, hl, rfl, _, h2, _, h4, h5, h6⟩ := hx.inv_sliceO
    refine ⟨l, a, cap, hl, rfl, fun hn => ?_, h4, h5⟩
    cases a with
    | mk ab ao as => simp at h4 h5 h6; subst h4; subst h5; rw [h6 (by omega)]
theorem srcCells_ok (hr : Rel P r h w) {x : AV} {v : Value} (hx : VR r x v) {size n m : Nat} (hm : lenAV x = some m) (hn : n ≤ m) {vs : List AV} (e : srcCells size n x h = some vs) :
    ∃ cs : Array Value, (Builtin.firstCells size n v).run P w = .ok cs w ∧ VRs r vs cs.toList ∧ vs.length = n * size := by
  unfold srcCells at e
  split at e
  · rename_i s
    obtain ⟨sb, rfl, hs⟩ := hx.inv_str
    obtain ⟨h1, e⟩ := bif_some e
    have h1 := beq_iff.1 h1
    injection e with e; subst e
    injection hm with hm; subst hm
    refine ⟨(sb.extract 0 n).data.map fun b => .int .u8 b.toNat, rfl, ?_, ?_⟩
    · have : s.take n = (sb.extract 0 n).data.toList := by rw [data_ext, hs]; simp
      rw [this]; exact toBytes_cells _
    · rw [cellsOfBytes_length, List.length_take, h1]; omega
  · have := hx.inv_nils; subst this
    injection e with e; subst e
    injection hm with hm
    have : n = 0 := by omega
    subst this
    exact ⟨#[], rfl, .nil, by simp⟩
  · rename_i b o k c
    obtain ⟨l, cs, hl, hcs, hlen, hle, hcell⟩ := hr.loads e
    obtain ⟨l', a, cap, hl', rfl, ha, hab, has⟩ := slice_place hx
    rw [hl] at hl'; injection hl' with hl'; subst hl'
    injection hm with hm; subst hm
    refine ⟨cs.toArray, ?_, by simpa using hcs, by rw [hcs.length, hlen]⟩
    show (loadCells a (n * size)).run P w = _
    rw [← hlen]
    by_cases hk : 0 < k
    · rw [ha hk]
      exact run_loadCells_list (P := P) w _ cs (by intro j u hu; rw [add_addr]; exact hcell j u hu)
    · have : n = 0 := by omega
      subst this
      simp at hlen
      subst hlen
      rfl
  · simp at e

theorem copy_ok (hr : Rel P r h w) {ty : TypeId} {o1 o2 : AOpd} {size : Nat} (hc : cCopy P ty o1 o2 = .m2 (.copy size o1 o2)) {d s z : AV} {vd vs : Value} (hd : VR r d vd) (hs : VR r s vs) {h' : H} (e : copyAV size d s h = .v z h')
    (ts : Array TypeId) (as : Array Value) (ht : ts[0]? = some ty) (h0 : as[0]? = some vd) (h1 : as[1]? = some vs) (ty' : TypeId) : MemV P r h w (Builtin.copy_ ts ty' as) z h' := by
  unfold cCopy at hc
  obtain ⟨u, hu, hc⟩ := withU_eq hc (by simp)
  cases u with
  | slice el =>
    simp only at hc
    obtain ⟨i, hi, hc⟩ := withT_eq hc (by simp)
    simp at hc; subst hc
    unfold copyAV at e
    split at e
    · rename_i n hn
      have hlen := fun w => lenAV_ok (P := P) (w := w) hs hn
      unfold copyK at e
      split at e
      · have := hd.inv_nils; subst this
        rw [mkInt_eq] at e
        obtain ⟨rfl, rfl⟩ := qr_v (show QR.v (.int .i64 0) h = .v z h' from e)
        have hcells : ∃ cs : Array Value, (Builtin.firstCells i.size 0 vs).run P w = .ok cs w := by
          unfold lenAV at hn
          split at hn
          · obtain ⟨sb, rfl, _⟩ := hs.inv_str; exact ⟨_, rfl⟩
          · have := hs.inv_nils; subst this; exact ⟨_, rfl⟩
          · obtain ⟨a, n', c, rfl⟩ := hs.inv_slice
            cases a with
            | none => exact ⟨_, rfl⟩
            | some a => exact ⟨#[], by show (loadCells a (0 * i.size)).run P w = _; rw [Nat.zero_mul]; rfl⟩
          · simp at hn
        obtain ⟨cs, hcs⟩ := hcells
        refine ⟨.int .i64 0, w, r, ?_, .int _ _, hr, Keeps.refl r h w⟩
        unfold Builtin.copy_
        simp only [ht, h0, h1, Sem.run_bind, run_und hu, Result.andThen_ok, hlen, run_size hi]
        have : Nat.min n 0 = 0 := Nat.min_zero n
        rw [this, hcs]
        rfl
      · rename_i b o len c
        split at e
        · rename_i xs hxs
          split at e
          · rename_i h1' hst
            rw [mkInt_eq] at e
            obtain ⟨rfl, rfl⟩ := qr_v (show QR.v (.int .i64 (.ofNat (Nat.min n len))) h1' = .v z h' from e)
            obtain ⟨cs, hcs, hcr, hxl⟩ := srcCells_ok (P := P) (w := w) hr hs hn (Nat.min_le_left n len) hxs
            obtain ⟨l, a, cap, hl, rfl, ha, hab, has⟩ := slice_place hd
            obtain ⟨l', hl', hle, hstore⟩ := hr.stores hst
            rw [hl] at hl'; injection hl' with hl'; subst hl'
            have hlen2 := hcr.length
            have hz : 0 < cs.toList.length → 0 < len := by
              intro hp
              rcases Nat.eq_zero_or_pos len with h | h
              · subst h
                exfalso
                have e0 : Nat.min n 0 = 0 := Nat.min_zero n
                have e1 : xs.length = 0 := by rw [hxl, Nat.min_zero, Nat.zero_mul]
                omega
              · exact h
            obtain ⟨w', hrun, hrel, hk⟩ := hstore cs.toList hcr a hab has (fun hp => by rw [ha (hz hp)])
            refine ⟨.int .i64 (Nat.min n len), w', r, ?_, .int _ _, hrel, hk⟩
            unfold Builtin.copy_
            simp only [ht, h0, h1, Sem.run_bind, run_und hu, Result.andThen_ok, hlen, run_size hi, hcs, hrun]
            rfl
          · simp at e
        · simp at e
      · simp at e
    · simp at e
  | _ => simp at hc
end
end Go.AM
namespace Go.AM
open Go
variable [Env]
section
variable {P : Program} {r : Rho} {w : World} {h : H} {t : TM} {ρ : Operand → Value}

theorem zeroCells_eq (zero : Array Value) (n : Nat) : Builtin.zeroCells zero n = zeros zero (n * zero.size) := rfl
theorem zeros_vrs' {zs : List AV} {zero : Array Value} (hz : VRs r zs zero.toList) (n : Nat) : VRs r (replList zs n) (zeros zero (n * zero.size)).toList := by
  have hl := hz.length
  have hl' : zs.length = zero.size := by simpa using hl
  rcases Nat.eq_zero_or_pos zs.length with h0 | h0
  · have : zs = [] := List.length_eq_zero_iff.1 h0
    subst this
    have e1 : zero.size = 0 := by omega
    rw [e1, Nat.mul_zero]
    have e2 : ∀ n, replList [] n = [] := by
      intro n; induction n with
      | zero => rfl
      | succ n ih => rw [replList_succ, ih]; rfl
    rw [e2]
    have : zeros zero 0 = #[] := by simp [zeros]
    rw [this]; exact .nil
  · rw [← hl']; exact zeros_vrs hz h0 n

theorem clear_ok (hr : Rel P r h w) {ty : TypeId} {o : AOpd} {zl : List AV} (hc : cClear P ty o = .m3 (.clear zl o)) {x z : AV} {v : Value} (hx : VR r x v) {h' : H} (e : clearAV zl x h = .v z h')
    (ts : Array TypeId) (as : Array Value) (ht : ts[0]? = some ty) (h0 : as[0]? = some v) (ty' : TypeId) : MemV P r h w (Builtin.clear_ ts ty' as) z h' := by
  unfold cClear at hc
  obtain ⟨u, hu, hc⟩ := withU_eq hc (by simp)
  cases u with
  | slice el =>
    simp only at hc
    obtain ⟨i, hi, hc⟩ := withT_eq hc (by simp)
    obtain ⟨zv, zx, hz, hzx, hc⟩ := zeroI_eq hc (by simp)
    simp at hc; subst hc
    have hzr := (ofValue_vr (r := r) hzx)
    have hzc := hzr.1.cells hzr.2
    unfold clearAV at e
    split at e
    · have := hx.inv_nils; subst this
      obtain ⟨rfl, rfl⟩ := qr_v e
      refine ⟨.tuple #[], w, r, ?_, .tup _ _ .nil, hr, Keeps.refl r h w⟩
      unfold Builtin.clear_
      simp only [ht, h0, Sem.run_bind, run_und hu, Result.andThen_ok]
      rfl
    · rename_i b o n c
      unfold doneR at e
      split at e
      · rename_i h1' hst
        obtain ⟨rfl, rfl⟩ := qr_v e
        obtain ⟨l, a, cap, hl, rfl, ha, hab, has⟩ := slice_place hx
        obtain ⟨l', hl', hle, hstore⟩ := hr.stores hst
        rw [hl] at hl'; injection hl' with hl'; subst hl'
        obtain ⟨w', hrun, hrel, hk⟩ := hstore (zeros zv.cells (n * zv.cells.size)).toList (zeros_vrs' hzc n) a hab has (fun hp => by
          rcases Nat.eq_zero_or_pos n with h | h
          · subst h; rw [Array.length_toList, zeros_size] at hp; omega
          · rw [ha h])
        refine ⟨.tuple #[], w', r, ?_, .tup _ _ .nil, hrel, hk⟩
        unfold Builtin.clear_
        simp only [ht, h0, Sem.run_bind, run_und hu, Result.andThen_ok]
        cases n with
        | zero =>
          have e0 : (zeros zv.cells (0 * zv.cells.size)).toList = [] := by rw [Nat.zero_mul]; simp [zeros]
          rw [e0] at hrun
          have : (storeCells a [] : Sem Unit).run P w = .ok () w := rfl
          rw [this] at hrun
          injection hrun with _ e; subst e
          rfl
        | succ n =>
          simp only [Sem.run_bind, run_zero hi hz, Result.andThen_ok, zeroCells_eq, hrun]
          rfl
      · simp at e
    · simp at e
  | _ => simp at hc
end
end Go.AM
namespace Go.AM
open Go
variable [Env]
section
variable {P : Program} {r : Rho} {w : World} {h : H} {t : TM} {ρ : Operand → Value}

/-! ### append: what the model does -/
theorem not_int {d : TypeDesc} (h : ∀ k, d ≠ .int k) : (match d with | .int _ => true | _ => false) = false := by
  cases d <;> first | rfl | exact absurd rfl (h _)
theorem append_in {ta tb el : TypeId} {dx : TypeDesc} {i : TypeInfo} (hu : P.underlying ta = some (.slice el)) (hv : P.underlying tb = some dx) (hdx : ∀ k, dx ≠ .int k) (hi : P.info? el = some i)
    (ts : Array TypeId) (as : Array Value) (ty : TypeId) (ht0 : ts[0]? = some ta) (ht1 : ts[1]? = some tb) (base : Option Addr) (len cap n : Nat) (x : Value) (h0 : as[0]? = some (.slice base len cap)) (h1 : as[1]? = some x)
    (hn : (Builtin.lenOf x).run P w = .ok n w) (hle : len + n ≤ cap) (new : Array Value) (hnew : (Builtin.firstCells i.size n x).run P w = .ok new w) (w' : World)
    (hst : ∀ a, base = some a → (storeCells (a.add (len * i.size)) new.toList).run P w = .ok () w') (hno : base = none → w' = w) :
    (Builtin.append_ ts ty as).run P w = .ok (.slice base (len + n) cap) w' := by
  unfold Builtin.append_
  simp only [ht0, ht1, h0, h1, Sem.run_bind, run_und hu, Result.andThen_ok, run_size hi, run_und hv, Sem.run_pure]
  cases dx <;> first
  | exact absurd rfl (hdx _)
  | simp only [Bool.false_eq_true, if_false, Bool.not_false, if_true, Result.andThen_ok, hn, if_pos hle, Sem.run_bind, hnew]
  all_goals (
    cases base with
    | none => rw [hno rfl]; rfl
    | some a => simp only [Sem.run_bind, hst a rfl, Result.andThen_ok]; rfl)
theorem append_new {ta tb el : TypeId} {dx : TypeDesc} {i : TypeInfo} {zv : Value} (hu : P.underlying ta = some (.slice el)) (hv : P.underlying tb = some dx) (hdx : ∀ k, dx ≠ .int k) (hi : P.info? el = some i) (hz : i.zero = some zv)
    (ts : Array TypeId) (as : Array Value) (ty : TypeId) (ht0 : ts[0]? = some ta) (ht1 : ts[1]? = some tb) (base : Option Addr) (len cap n : Nat) (x : Value) (h0 : as[0]? = some (.slice base len cap)) (h1 : as[1]? = some x)
    (hn : (Builtin.lenOf x).run P w = .ok n w) (hgt : cap < len + n) (hb : 1 ≤ i.bytes) (hbig : (len + n) * i.bytes ≤ 1099511627776)
    (old new : Array Value) (hold : (Builtin.firstCells i.size len (.slice base len cap)).run P w.drew = .ok old w.drew) (hnew : (Builtin.firstCells i.size n x).run P w.drew = .ok new w.drew) :
    ∃ c, len + n ≤ c ∧ (Builtin.append_ ts ty as).run P w = .ok (.slice (some ⟨w.heap.size, 0, none⟩) (len + n) c) (w.drew.alloc (.cells (old ++ new ++ Builtin.zeroCells zv.cells (c - (len + n))) el)) := by
  refine ⟨(Question.appendCap (len + n) cap el).cut (w.tape w.drawn (.appendCap (len + n) cap el)), Nat.le_add_right _ _, ?_⟩
  unfold Builtin.append_
  simp only [ht0, ht1, h0, h1, Sem.run_bind, run_und hu, Result.andThen_ok, run_size hi, run_und hv, Sem.run_pure]
  have e1 : ¬ (len + n ≤ cap) := by omega
  have hle1 : len + n ≤ (len + n) * i.bytes := Nat.le_mul_of_pos_right _ hb
  have hmax : IntKind.i64.max = 9223372036854775807 := by decide
  have e2 : ¬ (((len + n : Nat) : Int) > IntKind.i64.max) := by rw [hmax]; omega
  have e3 : ¬ (Builtin.nextslicecap (len + n) cap * i.bytes > 2 ^ 48) := by
    have := growslice_fits hgt (bytes := i.bytes) (by omega)
    have e : (2 : Nat) ^ 48 = 281474976710656 := by decide
    omega
  have e4 : ¬ (((len + n : Nat) : Int) > IntKind.i64.max ∧ (False ∨ i.bytes = 0)) := fun h => e2 h.1
  cases dx <;> first
  | exact absurd rfl (hdx _)
  | (simp only [Bool.false_eq_true, if_false, Bool.not_false, if_true, Result.andThen_ok, hn, if_neg e1, Sem.run_bind, run_info hi, e3, Sem.run_pure, e2, false_and, run_choose_drew, Question.forced, run_askRoom, hold, hnew, run_zero hi hz]; rfl)
end
end Go.AM
namespace Go.AM
open Go
variable [Env]
section
variable {P : Program} {r : Rho} {w : World} {h : H} {t : TM} {ρ : Operand → Value}

/-! ### a row gets a class of its own, and is no longer the longest of it -/
theorem Rel.retag {bl : T Obj} {nx : Nat} {dd : T Unit} {cl : Nat} (hr : Rel P r (H.mk bl nx dd cl) w) {b s k e : Nat} {d : AV} {c : T AV} {k' cl' : Nat}
    (hb : (H.mk bl nx dd cl).obj b = some (.row s d c k e)) (hk : (H.mk bl nx dd cl).alive k = true) (hk' : (k = 0 ∧ k' = cl ∧ cl' = cl + 1) ∨ (k ≠ 0 ∧ k' = k ∧ cl' = cl)) :
    Rel P r (H.mk (T.put bl b (.row s d c k' 0)) nx dd cl') w ∧ Keeps r (H.mk bl nx dd cl) w r (H.mk (T.put bl b (.row s d c k' 0)) nx dd cl') w ∧ 0 < k' ∧ k' < cl' ∧ (H.mk bl nx dd cl).alive k' = true := by
  have hpos : 0 < cl := hr.pos.1
  have hkl : k < cl := (hr.key b _ hb).2
  have h0 : 0 < k' := by rcases hk' with ⟨_, h, _⟩ | ⟨h1, h, _⟩ <;> omega
  have h1 : k' < cl' := by rcases hk' with ⟨_, h, h'⟩ | ⟨h1, h, h'⟩ <;> omega
  have h2 : cl ≤ cl' := by rcases hk' with ⟨_, h, h'⟩ | ⟨h1, h, h'⟩ <;> omega
  have h3 : (H.mk bl nx dd cl).alive k' = true := by
    rcases hk' with ⟨_, h, h'⟩ | ⟨h1, h, h'⟩
    · rw [h]; exact hr.dead cl (Nat.le_refl _)
    · rw [h]; exact hk
  have hlv : ∀ q, Live (H.mk (T.put bl b (.row s d c k' 0)) nx dd cl') q ↔ Live (H.mk bl nx dd cl) q := by
    intro q; unfold Live; rw [alive_same (bl := bl) (bl' := T.put bl b (.row s d c k' 0)) (n := nx) (n' := nx) (c := cl) (c' := cl')]
  have hobj : ∀ b' q, (H.mk (T.put bl b (.row s d c k' 0)) nx dd cl').obj b' = some q → (b' = b ∧ q = .row s d c k' 0) ∨ (b' ≠ b ∧ (H.mk bl nx dd cl).obj b' = some q) := by
    intro b' q hb'
    rw [H.obj_eq, T.get_put] at hb'
    by_cases e : b' = b
    · left; rw [if_pos e] at hb'; simp at hb'; exact ⟨e, hb'.symm⟩
    · right; rw [if_neg e] at hb'; exact ⟨e, hb'⟩
  obtain ⟨l, hl, hrow, hes⟩ := hr.obj b _ hb hk
  have hkk : 0 < k → k' = k := by intro h; rcases hk' with ⟨h', _, _⟩ | ⟨_, h', _⟩ <;> omega
  refine ⟨⟨?_, hr.dom, ?_, ?_, ?_, ?_, ⟨by show 0 < cl'; omega, hr.pos.2⟩⟩, ?_, h0, h1, h3⟩
  · intro b' q hb' hv
    rcases hobj b' q hb' with ⟨rfl, rfl⟩ | ⟨hne, hq⟩
    · exact ⟨l, hl, hrow, fun h => absurd h (Nat.lt_irrefl _)⟩
    · exact hr.obj b' q hq ((hlv q).1 hv)
  · intro b' q hb'
    rcases hobj b' q hb' with ⟨rfl, rfl⟩ | ⟨hne, hq⟩
    · exact ⟨(hr.key _ _ hb).1, h1⟩
    · have := hr.key _ _ hq; exact ⟨this.1, Nat.lt_of_lt_of_le this.2 h2⟩
  · intro b1 b2 o1 o2 l1 l2 hb1 hv1 hb2 hv2 hl1 hl2 heq hne
    rcases hobj b1 o1 hb1 with ⟨rfl, rfl⟩ | ⟨hne1, hq1⟩
    · rcases hobj b2 o2 hb2 with ⟨rfl, rfl⟩ | ⟨hne2, hq2⟩
      · exact absurd rfl hne
      · have := hr.inj b1 b2 _ o2 l1 l2 hb hk hq2 ((hlv o2).1 hv2) hl1 hl2 heq hne
        have h5 : 0 < k ∧ k = clsOf o2 := this
        exact ⟨h0, by show k' = clsOf o2; rw [hkk h5.1]; exact h5.2⟩
    · rcases hobj b2 o2 hb2 with ⟨rfl, rfl⟩ | ⟨hne2, hq2⟩
      · have := hr.inj b1 b2 o1 _ l1 l2 hq1 ((hlv o1).1 hv1) hb hk hl1 hl2 heq hne
        have h5 : 0 < clsOf o1 ∧ clsOf o1 = k := this
        exact ⟨h5.1, by show clsOf o1 = k'; rw [hkk (by omega)]; exact h5.2⟩
      · exact hr.inj b1 b2 o1 o2 l1 l2 hq1 ((hlv o1).1 hv1) hq2 ((hlv o2).1 hv2) hl1 hl2 heq hne
  · intro b1 b2 o1 o2 l1 l2 hb1 hv1 hb2 hv2 hl1 hl2 heq hne ht
    rcases hobj b1 o1 hb1 with ⟨rfl, rfl⟩ | ⟨hne1, hq1⟩
    · exact absurd ht (Nat.lt_irrefl _)
    · rcases hobj b2 o2 hb2 with ⟨rfl, rfl⟩ | ⟨hne2, hq2⟩
      · have := hr.tip b1 b2 o1 _ l1 l2 hq1 ((hlv o1).1 hv1) hb hk hl1 hl2 heq hne ht
        exact ⟨rfl, this.2⟩
      · exact hr.tip b1 b2 o1 o2 l1 l2 hq1 ((hlv o1).1 hv1) hq2 ((hlv o2).1 hv2) hl1 hl2 heq hne ht
  · intro j hj
    rw [alive_same (bl := bl) (bl' := T.put bl b (.row s d c k' 0)) (n := nx) (n' := nx) (c := cl) (c' := cl')]
    exact hr.dead j (Nat.le_trans h2 hj)
  · refine ⟨Rho.le_refl r, Nat.le_refl _, rfl, rfl, rfl, Nat.le_refl _, fun _ _ _ => rfl, ?_⟩
    rintro blk _ ⟨b', q, l', hb', hv', hl', rfl⟩
    rcases hobj b' q hb' with ⟨rfl, rfl⟩ | ⟨hne, hq⟩
    · exact ⟨b', _, l', hb, hk, hl', rfl⟩
    · exact ⟨b', q, l', hq, (hlv q).1 hv', hl', rfl⟩

theorem Wrote.rowR {w w' : World} {blk o : Nat} {vs : List Value} (hw : Wrote w w' blk o vs) {l : Loc} {s : Nat} {d : AV} {c : T AV} (h : RowR r w l s d c) (hle : s + l.sh ≤ o) : RowR r w' l s d c := by
  obtain ⟨h1, h2, h3, h4⟩ := h
  refine ⟨h1, by rw [hw.shape]; exact h2, fun i hi => by rw [hw.frozen]; exact h3 i hi, fun i hi => ?_⟩
  obtain ⟨v, hv, hx⟩ := h4 i hi
  exact ⟨v, by rw [hw.old _ (by right; left; simp; omega)]; exact hv, hx⟩
/-- a second row over the same memory, longer than every other -/
theorem Rel.alias {bl : T Obj} {nx : Nat} {dd : T Unit} {cl : Nat} (hr : Rel P r (H.mk bl nx dd cl) w) {b s k : Nat} {d : AV} {c : T AV} {l : Loc} {w' : World}
    (hb : (H.mk bl nx dd cl).obj b = some (.row s d c k 0)) (hk : (H.mk bl nx dd cl).alive k = true) (hk0 : 0 < k) (hl : r b = some l)
    (hoth : ∀ b' o' l', b' ≠ b → (H.mk bl nx dd cl).obj b' = some o' → Live (H.mk bl nx dd cl) o' → r b' = some l' → l'.blk = l.blk → esOf o' = 0 ∧ endOf o' + l'.sh ≤ s + l.sh)
    {vs : List Value} (hw : Wrote w w' l.blk (s + l.sh) vs) {s2 sh2 e2 : Nat} {d2 : AV} {c2 : T AV} (hrow : RowR r w' ⟨l.blk, sh2, l.es, l.n⟩ s2 d2 c2) (he : 0 < e2 → e2 = l.es) (hend : s + l.sh ≤ s2 + sh2) :
    Rel P (r.upd nx ⟨l.blk, sh2, l.es, l.n⟩) (H.mk (T.put bl nx (.row s2 d2 c2 k e2)) (nx + 1) dd cl) w' ∧ Keeps r (H.mk bl nx dd cl) w (r.upd nx ⟨l.blk, sh2, l.es, l.n⟩) (H.mk (T.put bl nx (.row s2 d2 c2 k e2)) (nx + 1) dd cl) w' := by
  have hfr : r nx = none := hr.fresh
  have hle := Rho.le_upd r nx ⟨l.blk, sh2, l.es, l.n⟩ hfr
  have hobj : ∀ b' o', (H.mk (T.put bl nx (.row s2 d2 c2 k e2)) (nx + 1) dd cl).obj b' = some o' → (b' = nx ∧ o' = .row s2 d2 c2 k e2) ∨ (b' ≠ nx ∧ (H.mk bl nx dd cl).obj b' = some o') := by
    intro b' o' hb'
    rw [H.obj_eq, T.get_put] at hb'
    by_cases q : b' = nx
    · left; rw [if_pos q] at hb'; simp at hb'; exact ⟨q, hb'.symm⟩
    · right; rw [if_neg q] at hb'; exact ⟨q, hb'⟩
  have hlv : ∀ o', Live (H.mk (T.put bl nx (.row s2 d2 c2 k e2)) (nx + 1) dd cl) o' ↔ Live (H.mk bl nx dd cl) o' := by
    intro o'; unfold Live; rw [alive_same (bl := bl) (bl' := T.put bl nx (.row s2 d2 c2 k e2)) (n := nx) (n' := nx + 1) (c := cl) (c' := cl)]
  have hbn : b ≠ nx := fun e => absurd (hr.key _ _ hb).1 (by show ¬ b < nx; omega)
  -- every other row over that memory is of the class, ends no later, and is no longest
  have hall : ∀ b' o' l', (H.mk bl nx dd cl).obj b' = some o' → Live (H.mk bl nx dd cl) o' → r b' = some l' → l'.blk = l.blk → clsOf o' = k ∧ esOf o' = 0 ∧ endOf o' + l'.sh ≤ s + l.sh := by
    intro b' o' l' hb' hv' hl' heq
    by_cases q : b' = b
    · subst q
      rw [hb] at hb'; injection hb' with hb'; subst hb'
      rw [hl] at hl'; injection hl' with hl'; subst hl'
      exact ⟨rfl, rfl, Nat.le_refl _⟩
    · have h1 := hoth b' o' l' q hb' hv' hl' heq
      have h2 := hr.inj b' b o' _ l' l hb' hv' hb hk hl' hl heq q
      exact ⟨h2.2, h1⟩
  refine ⟨⟨?_, ?_, ?_, ?_, ?_, ?_, ⟨hr.pos.1, Nat.succ_pos _⟩⟩, ?_⟩
  · intro b' o' hb' hv
    rcases hobj b' o' hb' with ⟨rfl, rfl⟩ | ⟨hne, h0⟩
    · exact ⟨_, Rho.upd_same r _ _, hrow.mono hle, he⟩
    · have hv := (hlv o').1 hv
      obtain ⟨l', hl', hO⟩ := hr.obj b' o' h0 hv
      refine ⟨l', hle _ _ hl', ObjR.mono hle ?_⟩
      by_cases hbe : l'.blk = l.blk
      · obtain ⟨hc, he0, hen⟩ := hall b' o' l' h0 hv hl' hbe
        cases o' with
        | row s' d' c' k' e' =>
          obtain ⟨h1, h2⟩ := hO
          exact ⟨hw.rowR h1 hen, h2⟩
        | _ => simp [clsOf] at hc; omega
      · exact hw.objR hO hbe
  · intro b' l' hl'
    by_cases q : b' = nx
    · subst q; exact Nat.lt_succ_self _
    · rw [Rho.upd_other r _ q] at hl'; exact Nat.lt_succ_of_lt (hr.dom _ _ hl')
  · intro b' o' hb'
    rcases hobj b' o' hb' with ⟨rfl, rfl⟩ | ⟨hne, h0⟩
    · exact ⟨Nat.lt_succ_self _, (hr.key _ _ hb).2⟩
    · exact ⟨Nat.lt_succ_of_lt (hr.key _ _ h0).1, (hr.key _ _ h0).2⟩
  · intro b1 b2 o1 o2 l1 l2 hb1 hv1 hb2 hv2 hl1 hl2 heq hne
    rcases hobj b1 o1 hb1 with ⟨rfl, rfl⟩ | ⟨hne1, h1⟩
    · rcases hobj b2 o2 hb2 with ⟨rfl, rfl⟩ | ⟨hne2, h2⟩
      · exact absurd rfl hne
      · rw [Rho.upd_same] at hl1; injection hl1 with hl1; subst hl1
        rw [Rho.upd_other r _ hne2] at hl2
        exact ⟨hk0, (hall b2 o2 l2 h2 ((hlv o2).1 hv2) hl2 heq.symm).1.symm⟩
    · rcases hobj b2 o2 hb2 with ⟨rfl, rfl⟩ | ⟨hne2, h2⟩
      · rw [Rho.upd_same] at hl2; injection hl2 with hl2; subst hl2
        rw [Rho.upd_other r _ hne1] at hl1
        have := (hall b1 o1 l1 h1 ((hlv o1).1 hv1) hl1 heq).1
        exact ⟨by omega, this⟩
      · rw [Rho.upd_other r _ hne1] at hl1
        rw [Rho.upd_other r _ hne2] at hl2
        exact hr.inj b1 b2 o1 o2 l1 l2 h1 ((hlv o1).1 hv1) h2 ((hlv o2).1 hv2) hl1 hl2 heq hne
  · intro b1 b2 o1 o2 l1 l2 hb1 hv1 hb2 hv2 hl1 hl2 heq hne ht
    rcases hobj b1 o1 hb1 with ⟨rfl, rfl⟩ | ⟨hne1, h1⟩
    · rcases hobj b2 o2 hb2 with ⟨rfl, rfl⟩ | ⟨hne2, h2⟩
      · exact absurd rfl hne
      · rw [Rho.upd_same] at hl1; injection hl1 with hl1; subst hl1
        rw [Rho.upd_other r _ hne2] at hl2
        have := (hall b2 o2 l2 h2 ((hlv o2).1 hv2) hl2 heq.symm).2
        exact ⟨this.1, Nat.le_trans this.2 hend⟩
    · rcases hobj b2 o2 hb2 with ⟨rfl, rfl⟩ | ⟨hne2, h2⟩
      · rw [Rho.upd_same] at hl2; injection hl2 with hl2; subst hl2
        rw [Rho.upd_other r _ hne1] at hl1
        have := (hall b1 o1 l1 h1 ((hlv o1).1 hv1) hl1 heq).2.1
        omega
      · rw [Rho.upd_other r _ hne1] at hl1
        rw [Rho.upd_other r _ hne2] at hl2
        exact hr.tip b1 b2 o1 o2 l1 l2 h1 ((hlv o1).1 hv1) h2 ((hlv o2).1 hv2) hl1 hl2 heq hne ht
  · intro j hj
    rw [alive_same (bl := bl) (bl' := T.put bl nx (.row s2 d2 c2 k e2)) (n := nx) (n' := nx + 1) (c := cl) (c' := cl)]; exact hr.dead j hj
  · have hlive : LiveAt r (H.mk bl nx dd cl) l.blk := ⟨b, _, l, hb, hk, hl, rfl⟩
    refine ⟨hle, by rw [hw.size]; exact Nat.le_refl _, hw.tape, hw.os, hw.output, Nat.le_succ _, ?_, ?_⟩
    · intro blk _ hn
      refine hw.other blk ?_
      rintro rfl
      exact hn hlive
    · rintro blk _ ⟨b', o', l', hb', hv', hl', rfl⟩
      rcases hobj b' o' hb' with ⟨rfl, rfl⟩ | ⟨hne, h0⟩
      · rw [Rho.upd_same] at hl'; injection hl' with hl'; subst hl'
        exact hlive
      · rw [Rho.upd_other r _ hne] at hl'
        exact ⟨b', o', l', h0, (hlv o').1 hv', hl', rfl⟩
end
end Go.AM
namespace Go.AM
open Go
variable [Env]
section
variable {P : Program} {r : Rho} {w : World} {h : H} {t : TM} {ρ : Operand → Value}

theorem firstCells_zero {x : AV} {v : Value} (hx : VR r x v) {n : Nat} (hn : lenAV x = some n) (size : Nat) : ∃ cs : Array Value, (Builtin.firstCells size 0 v).run P w = .ok cs w ∧ cs.size = 0 := by
  unfold lenAV at hn
  split at hn
  · obtain ⟨sb, rfl, _⟩ := hx.inv_str; exact ⟨_, rfl, by simp⟩
  · have := hx.inv_nils; subst this; exact ⟨#[], rfl, rfl⟩
  · obtain ⟨a, n', c, rfl⟩ := hx.inv_slice
    cases a with
    | none => exact ⟨#[], rfl, rfl⟩
    | some a => exact ⟨#[], by show (loadCells a (0 * size)).run P w = _; rw [Nat.zero_mul]; rfl, rfl⟩
  · simp at hn
theorem cellsFrom_loads {b o n s : Nat} {d : AV} {c : T AV} {k e : Nat} (hb : h.obj b = some (.row s d c k e)) (hk : h.alive k = true) (hle : o + n ≤ s) : h.loads b o n = some (H.cellsFrom d c n o) := by
  unfold H.loads H.loadsR
  rw [hb]
  simp only [hk, cond_true]
  have : Nat.ble (Nat.add o n) s = true := ble_iff.2 hle
  rw [this]; rfl
/-- what an append makes at the end of a row that may go on -/
theorem appEndR_eq {bl : T Obj} {nx : Nat} {dd : T Unit} {cl : Nat} (hnx : 0 < nx) {b o len size n sz k : Nat} {vs : List AV} {d : AV} {c : T AV} (hsz : o + len * size = sz) {z : AV} {h' : H} (e : appEndR b o len size n vs (H.mk bl nx dd cl) sz d c k = .v z h') :
    ∃ s2 d2 c2 k' cl', ((k = 0 ∧ k' = cl ∧ cl' = cl + 1) ∨ (k ≠ 0 ∧ k' = k ∧ cl' = cl)) ∧ s2 = (H.cellsFrom d c (len * size) o ++ vs).length ∧ (∀ i x, (H.cellsFrom d c (len * size) o ++ vs)[i]? = some x → cellAt d2 c2 i = x) ∧ ((d2 = d ∧ o = 0) ∨ d2 = .bot) ∧
      z = .slice nx 0 n none ∧ h' = H.mk (T.put (T.put bl b (.row sz d c k' 0)) nx (.row s2 d2 c2 k' size)) (nx + 1) dd cl' := by
  unfold appEndR at e
  simp only [forceB_eq] at e
  have hk : ∃ k' cl', ((k = 0 ∧ k' = cl ∧ cl' = cl + 1) ∨ (k ≠ 0 ∧ k' = k ∧ cl' = cl)) ∧ cond (Nat.beq k 0) cl k = k' ∧ cond (Nat.beq k 0) (Nat.succ cl) cl = cl' := by
    by_cases h : k = 0
    · subst h; exact ⟨_, _, .inl ⟨rfl, rfl, rfl⟩, rfl, rfl⟩
    · have : Nat.beq k 0 = false := by cases hh : Nat.beq k 0 with | false => rfl | true => exact absurd (beq_iff.1 hh) h
      exact ⟨_, _, .inr ⟨h, rfl, rfl⟩, by rw [this]; rfl, by rw [this]; rfl⟩
  obtain ⟨k', cl', hk1, hk2, hk3⟩ := hk
  rw [hk2, hk3] at e
  cases ho : Nat.beq o 0 with
  | true =>
    rw [ho] at e
    have ho := beq_iff.1 ho
    subst ho
    simp only [cond_true] at e
    rw [H.new_eq _ _ _ _ _ hnx] at e
    obtain ⟨rfl, rfl⟩ := qr_v (show QR.v (.slice nx 0 n none) _ = .v z h' from e)
    refine ⟨_, d, _, k', cl', hk1, ?_, ?_, .inl ⟨rfl, rfl⟩, rfl, rfl⟩
    · rw [List.length_append, H.cellsFrom_length]; omega
    · intro i x hx
      rw [cellAt_putList]
      by_cases hi : sz ≤ i ∧ i < sz + vs.length
      · rw [if_pos hi]
        rw [List.getElem?_append_right (by rw [H.cellsFrom_length]; omega), H.cellsFrom_length] at hx
        have : i - sz = i - len * size := by omega
        rw [this, hx]; rfl
      · rw [if_neg hi]
        have hl := (List.getElem?_eq_some_iff.1 hx).1
        rw [List.length_append, H.cellsFrom_length] at hl
        rw [List.getElem?_append_left (by rw [H.cellsFrom_length]; omega), H.cellsFrom_get _ _ _ _ _ (by omega)] at hx
        injection hx with hx
        rw [← hx, Nat.zero_add]
  | false =>
    rw [ho] at e
    simp only [cond_false] at e
    rw [H.new_eq _ _ _ _ _ hnx] at e
    obtain ⟨rfl, rfl⟩ := qr_v (show QR.v (.slice nx 0 n none) _ = .v z h' from e)
    refine ⟨_, .bot, _, k', cl', hk1, ?_, ?_, .inr rfl, rfl, rfl⟩
    · rw [List.length_append, H.cellsFrom_length]
    · intro i x hx
      have hl := (List.getElem?_eq_some_iff.1 hx).1
      rw [cellAt_putList, if_pos ⟨Nat.zero_le _, by omega⟩, Nat.sub_zero, hx]; rfl
end
end Go.AM
namespace Go.AM
open Go
variable [Env]
section
variable {P : Program} {r : Rho} {w : World} {h : H} {t : TM} {ρ : Operand → Value}

/-- what a compiled append stands on -/
structure AppC (P : Program) (ta tb : TypeId) (size bytes : Nat) (tag : AV) where
  el : TypeId
  dx : TypeDesc
  i : TypeInfo
  zv : Value
  hu : P.underlying ta = some (.slice el)
  hv : P.underlying tb = some dx
  hdx : ∀ k, dx ≠ .int k
  hi : P.info? el = some i
  hz : i.zero = some zv
  hs : size = i.size
  hb : bytes = i.bytes
  h1 : 1 ≤ i.size
  h2 : 1 ≤ i.bytes
  h3 : zv.cells.size = i.size
  ht : tag = tagD el
theorem cAppend_eq {ta tb : TypeId} {o1 o2 : AOpd} {size bytes : Nat} {tag : AV} (hc : cAppend P ta tb o1 o2 = .m1 (.append size bytes tag o1 o2)) : Nonempty (AppC P ta tb size bytes tag) := by
  unfold cAppend at hc
  obtain ⟨ds, hu, hc⟩ := withU_eq hc (by simp)
  obtain ⟨dx, hv, hc⟩ := withU_eq hc (by simp)
  have hdx : ∀ k, dx ≠ .int k := by rintro k rfl; cases ds <;> simp at hc
  split at hc
  · simp at hc
  · obtain ⟨i, hi, hc⟩ := withT_eq hc (by simp)
    cases hz : i.zero with
    | none => rw [hz] at hc; simp at hc
    | some zv =>
      rw [hz] at hc
      cases hq : (Nat.ble 1 i.size && Nat.ble 1 i.bytes && (zv.cells.size == i.size)) with
      | false => simp only at hc; rw [hq] at hc; simp at hc
      | true =>
        simp only at hc; rw [hq] at hc; simp at hc
        simp only [Bool.and_eq_true] at hq
        exact ⟨⟨_, _, _, _, hu, hv, hdx, hi, hz, hc.1.symm, hc.2.1.symm, ble_iff.1 hq.1.1, ble_iff.1 hq.1.2, by simpa using hq.2, hc.2.2.symm⟩⟩
  · simp at hc

theorem zero_len (z : List AV) (size : Nat) (h : z.length = 0 * size) : z = [] := by rw [Nat.zero_mul] at h; exact List.length_eq_zero_iff.1 h

/-- a new array -/
theorem appNew_ok (hr : Rel P r h w) {ta tb : TypeId} {size bytes : Nat} {tag : AV} (C : AppC P ta tb size bytes tag) {s x z : AV} {vs vx : Value} (hx : VR r x vx) {n len cap : Nat} {base : Option Addr} (hvs : vs = .slice base len cap) (hn : lenAV x = some n)
    (hgt : cap < len + n) {old : Option (List AV)} {olds : List AV} (hold : old = some olds) (hol : olds.length = len * size)
    (hrun : ∃ cs : Array Value, (Builtin.firstCells size len vs).run P w.drew = .ok cs w.drew ∧ VRs r olds cs.toList)
    {h' : H} (e : appNew size bytes tag (len + n) old (srcCells size n x h) h = .v z h')
    (ts : Array TypeId) (as : Array Value) (ht0 : ts[0]? = some ta) (ht1 : ts[1]? = some tb) (h0 : as[0]? = some vs) (h1 : as[1]? = some vx) (ty : TypeId) : MemV P r h w (Builtin.append_ ts ty as) z h' := by
  subst hold; subst hvs
  obtain ⟨el, dx, i, zv, hu, hv, hdx, hi, hz, rfl, rfl, c1, c2, c3, rfl⟩ := C
  unfold appNew at e
  split at e
  · rename_i o ws ho hws
    injection ho with ho; subst ho
    obtain ⟨hbig, e⟩ := bif_qr e
    have hbig : (len + n) * i.bytes ≤ 1099511627776 := ble_iff.1 hbig
    obtain ⟨cn, hcn, hcr, hcl⟩ := srcCells_ok (P := P) hr.drew hx hn (Nat.le_refl n) hws
    obtain ⟨co, hco, hor⟩ := hrun
    obtain ⟨c, hc, hrun⟩ := append_new (P := P) (w := w) hu hv hdx hi hz ts as ty ht0 ht1 base len cap n vx h0 h1 (lenAV_ok hx hn) hgt c2 hbig co cn hco hcn
    have hsz : (co ++ cn ++ Builtin.zeroCells zv.cells (c - (len + n))).size = c * i.size := by
      have e1 : olds.length = co.size := by rw [hor.length, Array.length_toList]
      have e2 : ws.length = cn.size := by rw [hcr.length, Array.length_toList]
      rw [Array.size_append, Array.size_append, zeroCells_eq, zeros_size, c3, ← e1, ← e2, hol, hcl, ← Nat.add_mul, ← Nat.add_mul]
      congr 1; omega
    have hvl : (olds ++ ws).length = (len + n) * i.size := by rw [List.length_append, hol, hcl, ← Nat.add_mul]
    obtain ⟨r', q1, q2, q3⟩ := sliceOpen_ok (P := P) (w := w.drew) hr.drew (cs := co ++ cn ++ Builtin.zeroCells zv.cells (c - (len + n))) el (0, 0) (fun i _ => by simp) (vs := olds ++ ws) (by
        have : (co ++ cn ++ Builtin.zeroCells zv.cells (c - (len + n))).toList = (co.toList ++ cn.toList) ++ (Builtin.zeroCells zv.cells (c - (len + n))).toList := by simp
        rw [this, List.take_left' (by rw [List.length_append, List.length_append, hor.length, hcr.length])]
        exact hor.append hcr) (d := tagD el) (fun n h => tagD_inj h) (fun n h => tagD_ne_tagA h) (es := i.size) (len := len + n) (cap := c) c1 hvl hsz hc e
    exact ⟨_, _, r', hrun, q1, q2, Keeps.of_drew q3⟩
  · simp at e

/-- into the row that is there -/
theorem appIn_ok (hr : Rel P r h w) {ta tb : TypeId} {size bytes : Nat} {tag : AV} (C : AppC P ta tb size bytes tag) {x z : AV} {vx : Value} (hx : VR r x vx) {n b o len cap : Nat} {k : Option Nat} {l : Loc} {a : Addr} (hl : r b = some l) (hn : lenAV x = some n)
    (hle : len + n ≤ cap) (ha : 0 < cap → a = ⟨l.blk, o + l.sh, none⟩) (hab : a.block = l.blk) (has : a.spot = none)
    (hres : ∀ r', r.le r' → VR r' (.slice b o (len + n) k) (.slice (some a) (len + n) cap))
    {h' : H} (e : appIn b o len size (len + n) k (srcCells size n x h) h = .v z h')
    (ts : Array TypeId) (as : Array Value) (ht0 : ts[0]? = some ta) (ht1 : ts[1]? = some tb) (h0 : as[0]? = some (.slice (some a) len cap)) (h1 : as[1]? = some vx) (ty : TypeId) : MemV P r h w (Builtin.append_ ts ty as) z h' := by
  obtain ⟨el, dx, i, zv, hu, hv, hdx, hi, hz, rfl, rfl, c1, c2, c3, rfl⟩ := C
  unfold appIn at e
  split at e
  · rename_i ws hws
    unfold giveR at e
    split at e
    · rename_i h1' hst
      obtain ⟨rfl, rfl⟩ := qr_v e
      obtain ⟨cn, hcn, hcr, hcl⟩ := srcCells_ok (P := P) hr hx hn (Nat.le_refl n) hws
      obtain ⟨l', hl', hle', hstore⟩ := hr.stores hst
      rw [hl] at hl'; injection hl' with hl'; subst hl'
      have hadd : (a.add (len * i.size)).block = l.blk ∧ (a.add (len * i.size)).spot = none := by
        cases a with
        | mk ab ao as' =>
          simp at hab has; subst hab; subst has
          unfold Addr.add; split <;> simp
      obtain ⟨w', hrun, hrel, hk⟩ := hstore cn.toList hcr (a.add (len * i.size)) hadd.1 hadd.2 (fun hp => by
        have hp' : 0 < n := by
          rcases Nat.eq_zero_or_pos n with h | h
          · subst h; rw [Nat.zero_mul] at hcl; have := hcr.length; omega
          · exact h
        rw [ha (by omega), add_addr]; show o + l.sh + len * i.size = _; omega)
      exact ⟨_, w', r, append_in (P := P) hu hv hdx hi ts as ty ht0 ht1 (some a) len cap n vx h0 h1 (lenAV_ok hx hn) hle cn hcn w' (fun a' ha' => by injection ha' with ha'; subst ha'; exact hrun) (fun h => by simp at h), hres r (Rho.le_refl r), hrel, hk⟩
    · simp at e
  · simp at e
end
end Go.AM
namespace Go.AM
open Go
variable [Env]
section
variable {P : Program} {r : Rho} {w : World} {h : H} {t : TM} {ρ : Operand → Value}

theorem cell_of_eq {w : World} {b i j : Nat} {v : Value} (h : w.cell? ⟨b, i, none⟩ = some v) (e : i = j) : w.cell? ⟨b, j, none⟩ = some v := by subst e; exact h
/-- at the end of a row that may go on -/
theorem appEnd_ok (hr : Rel P r h w) {ta tb : TypeId} {size bytes : Nat} {tag : AV} (C : AppC P ta tb size bytes tag) {x z : AV} {vx : Value} (hx : VR r x vx) {n b o len cap : Nat} {l : Loc} {a : Addr} (hl : r b = some l) (hn : lenAV x = some n) (hn0 : 0 < n)
    (hes : 0 < l.es) (hlc : len ≤ cap) (hcap : o + l.sh + cap * l.es = l.n) (hab : a.block = l.blk) (has : a.spot = none) (hao : 0 < cap → a.off = o + l.sh)
    {sz k : Nat} {d : AV} {c : T AV} (hobj : h.obj b = some (.row sz d c k size)) (hk : h.alive k = true) (hsz : o + len * size = sz) (hbig : (len + n) * bytes ≤ 1099511627776)
    {ws : List AV} (hws : srcCells size n x h = some ws) (hone : H.oneCells ws = true) (htag : okTag tag d = true)
    {h' : H} (e : appEndR b o len size (len + n) ws h sz d c k = .v z h')
    (ts : Array TypeId) (as : Array Value) (ht0 : ts[0]? = some ta) (ht1 : ts[1]? = some tb) (h0 : as[0]? = some (.slice (some a) len cap)) (h1 : as[1]? = some vx) (ty : TypeId) : MemV P r h w (Builtin.append_ ts ty as) z h' := by
  obtain ⟨el, dx, i, zv, hu, hv, hdx, hi, hz, rfl, rfl, c1, c2, c3, rfl⟩ := C
  obtain ⟨l', hl', hrow, hese⟩ := hr.obj b _ hobj hk
  rw [hl] at hl'; injection hl' with hl'; subst hl'
  have hese : i.size = l.es := hese c1
  obtain ⟨r1, ⟨elb, r2, r2t⟩, r3, r4⟩ := hrow
  have hload := cellsFrom_loads (o := o) (n := len * i.size) hobj hk (by omega)
  cases h with
  | mk bl nx dd cl =>
  obtain ⟨s2, d2, c2', k', cl', hk', hs2, hsp, hd2, rfl, rfl⟩ := appEndR_eq hr.pos.2 hsz e
  have hdd : ∀ n, d2 = tagD n → d = tagD n := by
    intro n hn
    rcases hd2 with ⟨h, _⟩ | h
    · rw [← h]; exact hn
    · rw [h] at hn; simp [tagD] at hn
  have hna : ∀ n, d2 = tagA n → False := by
    intro n hn
    rcases hd2 with ⟨h, _⟩ | h
    · rw [h] at hn; subst hn; exact absurd htag (by show ¬ (false = true); simp)
    · rw [h] at hn; simp [tagA] at hn
  have hdel : ∀ n, d = tagD n → el = n := by
    rintro n rfl
    have : Nat.beq el n = true := htag
    exact beq_iff.1 this
  obtain ⟨hr1, hk1, hkp, hkl, hka⟩ := hr.retag hobj hk hk'
  have hlen0 : (H.cellsFrom d c (len * i.size) o).length = len * i.size := H.cellsFrom_length _ _ _ _
  have hfresh : r nx = none := hr.fresh
  have hbn : b ≠ nx := fun e => absurd (hr.key _ _ hobj).1 (by show ¬ b < nx; omega)
  by_cases hin : len + n ≤ cap
  · -- where it is
    obtain ⟨cn, hcn, hcr, hcl⟩ := srcCells_ok (P := P) hr hx hn (Nat.le_refl n) hws
    have hcl' : cn.toList.length = n * i.size := by rw [← hcr.length, hcl]
    have haa : a = ⟨l.blk, o + l.sh, none⟩ := by
      cases a with
      | mk ab ao as => simp at hab has hao; subst hab; subst has; rw [hao (by omega)]
    have hmul : (len + n) * i.size ≤ cap * i.size := Nat.mul_le_mul_right _ hin
    rw [Nat.add_mul] at hmul
    have hcap' : o + l.sh + cap * i.size = l.n := by rw [hese]; exact hcap
    have hadd : a.add (len * i.size) = ⟨l.blk, sz + l.sh, none⟩ := by
      rw [haa, add_addr]; congr 1; omega
    have hvone : ∀ v ∈ cn.toList, v.oneCell' = true := by
      intro v hv
      obtain ⟨j, hj, rfl⟩ := List.getElem_of_mem hv
      obtain ⟨y, hy, hyr⟩ := hcr.get j _ (List.getElem?_eq_getElem hj)
      exact hyr.oneCell (H.oneCells_all ws hone y (List.mem_of_getElem? hy))
    obtain ⟨w', hrun, hw⟩ := run_storeCells_wrote P ⟨l.blk, sz + l.sh, none⟩ rfl cn.toList 0 w (by
        intro j hj
        exact cell_isSome_of_shape r2 (by show sz + l.sh + 0 + j < l.n; omega)) (by
        intro j hj
        exact r3 _ (by show sz + l.sh + 0 + j < l.n; omega)) hvone
    simp only [Nat.add_zero] at hw
    have hrow2 : RowR r w' ⟨l.blk, o + l.sh, l.es, l.n⟩ s2 d2 c2' := by
      refine ⟨?_, ⟨elb, by rw [hw.shape]; exact r2, fun n h => ⟨(r2t.1 n (hdd n h)).1, by
        have h0 : o = 0 := by
          rcases hd2 with ⟨_, h0⟩ | h0
          · exact h0
          · rw [h0] at h; simp [tagD] at h
        have := (r2t.1 n (hdd n h)).2
        show o + l.sh = 0
        omega⟩, fun n h => (hna n h).elim⟩, fun j hj => by rw [hw.frozen]; exact r3 j hj, ?_⟩
      · rw [hs2, List.length_append, hlen0, hcl]; show len * i.size + n * i.size + (o + l.sh) ≤ l.n; omega
      · intro j hj
        have hx' : (H.cellsFrom d c (len * i.size) o ++ ws)[j]? = some (H.cellsFrom d c (len * i.size) o ++ ws)[j] := List.getElem?_eq_getElem (by rw [← hs2]; exact hj)
        rw [hsp j _ hx']
        by_cases hjl : j < len * i.size
        · rw [List.getElem?_append_left (by rw [hlen0]; exact hjl), H.cellsFrom_get _ _ _ _ _ hjl] at hx'
          injection hx' with hx'
          rw [← hx']
          obtain ⟨v, hv, hvr⟩ := r4 (o + j) (by omega)
          refine ⟨v, ?_, hvr⟩
          have e1 := hw.old ⟨l.blk, j + (o + l.sh), none⟩ (by right; left; show j + (o + l.sh) < sz + l.sh; omega)
          show w'.cell? ⟨l.blk, j + (o + l.sh), none⟩ = some v
          rw [e1]
          exact cell_of_eq hv (by omega)
        · rw [List.getElem?_append_right (by rw [hlen0]; omega), hlen0] at hx'
          obtain ⟨v, hv, hvr⟩ := hcr.get' _ _ hx'
          exact ⟨v, cell_of_eq (hw.new _ v hv) (by show _ = j + (o + l.sh); omega), hvr⟩
    have hbobj : (H.mk (T.put bl b (.row sz d c k' 0)) nx dd cl').obj b = some (.row sz d c k' 0) := by rw [H.obj_eq, T.get_put, if_pos rfl]
    obtain ⟨q2, q3⟩ := hr1.alias (s2 := s2) (sh2 := o + l.sh) (e2 := i.size) (d2 := d2) (c2 := c2') hbobj (by rw [alive_same (bl := bl) (n := nx) (c := cl)]; exact hka) hkp hl (by
        intro b' o' l' hne hb' hv' hl' heq
        rw [H.obj_eq, T.get_put, if_neg hne] at hb'
        have hv' : Live (H.mk bl nx dd cl) o' := by unfold Live at hv' ⊢; rw [alive_same (bl := bl) (n := nx) (c := cl)] at hv'; exact hv'
        exact hr.tip b b' _ o' l l' hobj hk hb' hv' hl hl' heq.symm (Ne.symm hne) (by show 0 < i.size; omega)) hw hrow2 (fun _ => hese) (by rw [hs2, List.length_append, hlen0]; omega)
    refine ⟨_, w', _, append_in (P := P) hu hv hdx hi ts as ty ht0 ht1 (some a) len cap n vx h0 h1 (lenAV_ok hx hn) hin cn hcn w' (fun a' ha' => by injection ha' with ha'; subst ha'; rw [hadd]; exact hrun) (fun h => by simp at h), ?_, q2, hk1.trans q3⟩
    refine VR.sliceO nx 0 (len + n) cap a ⟨l.blk, o + l.sh, l.es, l.n⟩ (Rho.upd_same _ _ _) hes hin (by show 0 + (o + l.sh) + cap * l.es = l.n; omega) hab has (fun _ => by rw [haa]; show o + l.sh = 0 + (o + l.sh); omega)
  · -- a new array
    obtain ⟨cn, hcn, hcr, hcl⟩ := srcCells_ok (P := P) hr.drew hx hn (Nat.le_refl n) hws
    obtain ⟨l2, co, hl2, hor, hcol, hcole, hcocell⟩ := hr.drew.loads hload
    rw [hl] at hl2; injection hl2 with hl2; subst hl2
    have hold : (Builtin.firstCells i.size len (.slice (some a) len cap)).run P w.drew = .ok co.toArray w.drew := by
      show (loadCells a (len * i.size)).run P w.drew = _
      rw [← hcol]
      by_cases hl0 : 0 < len
      · have haa : a = ⟨l.blk, o + l.sh, none⟩ := by
          cases a with
          | mk ab ao as => simp at hab has hao; subst hab; subst has; rw [hao (by omega)]
        rw [haa]
        exact run_loadCells_list (P := P) w.drew _ co (by intro j u hu; rw [add_addr]; exact hcocell j u hu)
      · have : len = 0 := by omega
        subst this
        simp at hcol
        subst hcol
        rfl
    obtain ⟨cc, hc, hrun⟩ := append_new (P := P) (w := w) hu hv hdx hi hz ts as ty ht0 ht1 (some a) len cap n vx h0 h1 (lenAV_ok hx hn) (by omega) c2 hbig co.toArray cn hold hcn
    generalize hcs : co.toArray ++ cn ++ Builtin.zeroCells zv.cells (cc - (len + n)) = cs at hrun
    have hcnl : cn.toList.length = n * i.size := by rw [← hcr.length, hcl]
    have hcssz : cs.size = cc * i.size := by
      rw [← hcs, Array.size_append, Array.size_append, zeroCells_eq, zeros_size, c3, ← Array.length_toList (xs := cn), hcnl]
      rw [show co.toArray.size = len * i.size from by rw [← hcol]; simp, ← Nat.add_mul, ← Nat.add_mul]
      congr 1; omega
    have hcsget : ∀ (j : Nat) (v : Value), (co ++ cn.toList)[j]? = some v → cs[j]? = some v := by
      intro j v hj
      have hlt := (List.getElem?_eq_some_iff.1 hj).1
      rw [← Array.getElem?_toList, ← hcs]
      rw [Array.toList_append, Array.toList_append, List.getElem?_append_left (by simpa using hlt)]
      simpa using hj
    have hlist : VRs r (H.cellsFrom d c (len * i.size) o ++ ws) (co ++ cn.toList) := hor.append hcr
    have hmul : (len + n) * i.size ≤ cc * i.size := Nat.mul_le_mul_right _ hc
    rw [Nat.add_mul] at hmul
    have hs2' : s2 = len * i.size + n * i.size := by rw [hs2, List.length_append, hlen0, hcl]
    have hrow2 : RowR r (w.drew.alloc (.cells cs el)) ⟨w.heap.size, 0, i.size, cs.size⟩ s2 d2 c2' := by
      refine ⟨by show s2 + 0 ≤ cs.size; omega, ⟨el, ?_, fun n h => ⟨hdel n (hdd n h), rfl⟩, fun n h => (hna n h).elim⟩, ?_, ?_⟩
      · unfold World.shape?
        have := heap_alloc_new w.drew (.cells cs el)
        have e : w.drew.heap.size = w.heap.size := rfl
        rw [e] at this
        rw [this]
      · intro j hj
        have := frozen_alloc (w := w.drew) cs el (0, 0) j
        have e : w.drew.heap.size = w.heap.size := rfl
        rw [e] at this
        rw [this]; simp
      · intro j hj
        have hx' : (H.cellsFrom d c (len * i.size) o ++ ws)[j]? = some (H.cellsFrom d c (len * i.size) o ++ ws)[j] := List.getElem?_eq_getElem (by rw [← hs2]; exact hj)
        rw [hsp j _ hx']
        obtain ⟨v, hv, hvr⟩ := hlist.get' _ _ hx'
        refine ⟨v, ?_, hvr⟩
        have := cell_alloc (w := w.drew) cs el (0, 0) (j + 0)
        have e : w.drew.heap.size = w.heap.size := rfl
        rw [e] at this
        show World.cell? (w.drew.alloc (.cells cs el)) ⟨w.heap.size, j + 0, none⟩ = some v
        rw [this]; exact hcsget j v hv
    have hle' := Rho.le_upd r nx ⟨w.heap.size, 0, i.size, cs.size⟩ hfresh
    obtain ⟨q2, q3⟩ := hr1.drew.new' (.row s2 d2 c2' k' i.size) (.cells cs el) i.size cs.size hkl (H.new_eq _ _ _ _ _ hr.pos.2) ⟨hrow2.mono hle', fun _ => rfl⟩
    refine ⟨_, _, _, hrun, ?_, q2, hk1.trans (Keeps.of_drew q3)⟩
    exact VR.sliceO nx 0 (len + n) cc ⟨w.heap.size, 0, none⟩ ⟨w.heap.size, 0, i.size, cs.size⟩ (Rho.upd_same _ _ _) c1 hc (by show 0 + 0 + cc * i.size = cs.size; omega) rfl rfl (fun _ => rfl)
end
end Go.AM
namespace Go.AM
open Go
variable [Env]
section
variable {P : Program} {r : Rho} {w : World} {h : H} {t : TM} {ρ : Operand → Value}

theorem append_ok (hr : Rel P r h w) {ta tb : TypeId} {o1 o2 : AOpd} {size bytes : Nat} {tag : AV} (hc : cAppend P ta tb o1 o2 = .m1 (.append size bytes tag o1 o2)) {s x z : AV} {vs vx : Value} (hs : VR r s vs) (hx : VR r x vx) {h' : H} (e : appendAV size bytes tag s x h = .v z h')
    (ts : Array TypeId) (as : Array Value) (ht0 : ts[0]? = some ta) (ht1 : ts[1]? = some tb) (h0 : as[0]? = some vs) (h1 : as[1]? = some vx) (ty : TypeId) : MemV P r h w (Builtin.append_ ts ty as) z h' := by
  obtain ⟨C⟩ := cAppend_eq hc
  unfold appendAV at e
  split at e
  · rename_i n hn
    rw [forceN_eq] at e
    unfold appK at e
    split at e
    · -- of nothing
      have := hs.inv_nils; subst this
      cases hb : Nat.beq n 0 with
      | true =>
        have hb := beq_iff.1 hb
        subst hb
        simp only [Nat.beq_refl, cond_true] at e
        obtain ⟨rfl, rfl⟩ := qr_v e
        obtain ⟨cs, hcs, hcz⟩ := firstCells_zero (P := P) (w := w) hx hn C.i.size
        refine ⟨_, w, r, append_in (P := P) C.hu C.hv C.hdx C.hi ts as ty ht0 ht1 none 0 0 0 vx h0 h1 (lenAV_ok hx hn) (Nat.le_refl _) cs hcs w (fun a h => by simp at h) (fun _ => rfl), .nils, hr, Keeps.refl r h w⟩
      | false =>
        rw [hb] at e
        simp only [cond_false] at e
        have hn0 : n ≠ 0 := fun e => by rw [beq_iff.2 e] at hb; exact absurd hb (by simp)
        have e : appNew size bytes tag (0 + n) (some []) (srcCells size n x h) h = .v z h' := by rw [Nat.zero_add]; exact e
        exact appNew_ok (s := .nils) hr C hx rfl hn (by omega) rfl (by simp) ⟨#[], rfl, .nil⟩ e ts as ht0 ht1 h0 h1 ty
    · -- its capacity is known
      rename_i b o len c
      obtain ⟨l, hl, rfl⟩ := hs.inv_sliceC
      cases hb : Nat.ble (len + n) c with
      | true =>
        rw [hb] at e
        simp only [cond_true] at e
        exact appIn_ok hr C hx hl hn (ble_iff.1 hb) (fun _ => rfl) rfl rfl (fun r' hle => .sliceC b o (len + n) c l (hle _ _ hl)) e ts as ht0 ht1 h0 h1 ty
      | false =>
        rw [hb] at e
        simp only [cond_false] at e
        have hgt : c < len + n := by
          rcases Nat.lt_or_ge c (len + n) with h | h
          · exact h
          · rw [ble_iff.2 h] at hb; exact absurd hb (by simp)
        cases hld : h.loads b o (len * size) with
        | none => rw [hld] at e; unfold appNew at e; simp at e
        | some olds =>
          rw [hld] at e
          obtain ⟨l2, co, hl2, hor, hcol, hcole, hcocell⟩ := hr.drew.loads hld
          rw [hl] at hl2; injection hl2 with hl2; subst hl2
          refine appNew_ok (s := .nils) hr C hx rfl hn hgt rfl (by rw [hor.length, hcol]) ⟨co.toArray, ?_, by simpa using hor⟩ e ts as ht0 ht1 h0 h1 ty
          show (loadCells _ (len * size)).run P w.drew = _
          rw [← hcol]
          exact run_loadCells_list (P := P) w.drew _ co (by intro j u hu; rw [add_addr]; exact hcocell j u hu)
    · -- its row may go on
      rename_i b o len
      obtain ⟨l, a, cap, hl, rfl, hes, hlc, hcap, hab, has, hao⟩ := hs.inv_sliceO
      have haa : 0 < cap → a = ⟨l.blk, o + l.sh, none⟩ := by
        intro hp
        cases a with
        | mk ab ao as => simp at hab has hao; subst hab; subst has; rw [hao hp]
      cases hb : Nat.beq n 0 with
      | true =>
        have hb := beq_iff.1 hb
        subst hb
        simp only [Nat.beq_refl, cond_true] at e
        obtain ⟨rfl, rfl⟩ := qr_v e
        obtain ⟨cs, hcs, hcz⟩ := firstCells_zero (P := P) (w := w) hx hn C.i.size
        have hcs0 : cs.toList = [] := by
          have : cs = #[] := Array.eq_empty_of_size_eq_zero hcz
          rw [this]
        exact ⟨_, w, r, append_in (P := P) C.hu C.hv C.hdx C.hi ts as ty ht0 ht1 (some a) len cap 0 vx h0 h1 (lenAV_ok hx hn) hlc cs hcs w (fun a' ha' => by rw [hcs0]; rfl) (fun h => by simp at h), hs, hr, Keeps.refl r h w⟩
      | false =>
        rw [hb] at e
        simp only [cond_false] at e
        have hn0 : n ≠ 0 := fun e => by rw [beq_iff.2 e] at hb; exact absurd hb (by simp)
        unfold appOpenR at e
        split at e
        · rename_i sz d c k es ws hobj hws
          obtain ⟨h2, e⟩ := bif_qr e
          simp only [Bool.and_eq_true] at h2
          obtain ⟨hk, hes2⟩ := h2
          have hes2 := beq_iff.1 hes2
          subst hes2
          obtain ⟨l', hl', hrow, hese⟩ := hr.obj b _ hobj hk
          rw [hl] at hl'; injection hl' with hl'; subst hl'
          have hese : es = l.es := hese (by rw [C.hs]; exact C.h1)
          cases hb2 : Nat.ble (o + (len + n) * es) sz with
          | true =>
            rw [hb2] at e
            simp only [cond_true] at e
            have hb2 := ble_iff.1 hb2
            have hsn : sz + l.sh ≤ l.n := hrow.1
            have hle : len + n ≤ cap := by
              rcases Nat.lt_or_ge cap (len + n) with h | h
              · exfalso
                have h9 : (cap + 1) * l.es ≤ (len + n) * l.es := Nat.mul_le_mul_right _ h
                rw [Nat.succ_mul] at h9
                rw [hese] at hb2
                omega
              · exact h
            have e : appIn b o len es (len + n) none (srcCells es n x h) h = .v z h' := by rw [hws]; exact e
            exact appIn_ok hr C hx hl hn hle haa hab has (fun r' hle' => .sliceO b o (len + n) cap a l (hle' _ _ hl) hes hle hcap hab has hao) e ts as ht0 ht1 h0 h1 ty
          | false =>
            rw [hb2] at e
            simp only [cond_false] at e
            obtain ⟨h3, e⟩ := bif_qr e
            simp only [Bool.and_eq_true] at h3
            obtain ⟨h3, h4, h5, h6⟩ := h3
            exact appEnd_ok hr C hx hl hn (by omega) hes hlc hcap hab has hao hobj hk (beq_iff.1 h3) (ble_iff.1 h4) hws h5 h6 e ts as ht0 ht1 h0 h1 ty
        · simp at e
    · simp at e
  · simp at e
end
end Go.AM
namespace Go.AM
open Go
variable [Env]
section
variable {P : Program} {r : Rho} {w : World} {h : H} {t : TM} {ρ : Operand → Value}

/-! ## maps -/
theorem keyOk_sem {kd : TypeDesc} {fk : FK} (hf : fkD kd = some fk) {k : AV} {v : Value} (hk : VR r k v) (ho : keyOk fk k = true) :
    (∃ b, kd = .bool ∧ v = .bool b ∧ k = .bool b) ∨ (∃ j i n, kd = .int j ∧ v = .int i n ∧ k = .int i n) ∨ (∃ s : ByteArray, kd = .string ∧ v = .string s ∧ k = .str s.data.toList) := by
  unfold keyOk at ho
  split at ho
  · have := hk.inv_bool; subst this
    left; cases kd <;> simp [fkD] at hf; exact ⟨_, rfl, rfl, rfl⟩
  · have := hk.inv_int; subst this
    right; left; cases kd <;> simp [fkD] at hf; exact ⟨_, _, _, rfl, rfl, rfl⟩
  · obtain ⟨s, rfl, hs⟩ := hk.inv_str
    right; right; cases kd <;> simp [fkD] at hf; exact ⟨s, rfl, rfl, by rw [hs]⟩
  · simp at ho
theorem bytes_beq (a b : ByteArray) : (a == b) = (a.data.toList == b.data.toList) := by rw [beq_toListBytes, ByteArray.toList_eq, ByteArray.toList_eq]
theorem sameNow_ok {kd : TypeDesc} {fk : FK} (hf : fkD kd = some fk) {k : AV} {v : Value} (hk : VR r k v) (ho : keyOk fk k = true) {k' : AV} {v' : Value} (hk' : VR r k' v') {b : Bool} (e : eqFlat k k' = some b) :
    Instr.sameNow kd v v' = some b ∧ (b = true → Instr.sameBits 10000 v' v = true ∧ VR r k v') := by
  rcases keyOk_sem hf hk ho with ⟨a, rfl, rfl, rfl⟩ | ⟨j, i, n, rfl, rfl, rfl⟩ | ⟨s, rfl, rfl, rfl⟩
  · unfold eqFlat at e
    split at e
    · rename_i x y h1
      injection h1 with h1; subst h1
      have := hk'.inv_bool; subst this
      injection e with e; subst e
      refine ⟨rfl, fun h => ?_⟩
      have : a = y := by simpa using h
      subst this
      exact ⟨by simp [Instr.sameBits], .bool _⟩
    · rename_i h1; simp at h1
    · rename_i h1; simp at h1
    · simp at e
  · unfold eqFlat at e
    split at e
    · rename_i h1; simp at h1
    · rename_i i' x i2 y h1
      injection h1 with h1 h2; subst h1; subst h2
      have := hk'.inv_int; subst this
      split at e
      · rename_i hii; subst hii
        injection e with e; subst e
        refine ⟨by simp [Instr.sameNow, eqI_eq], fun h => ?_⟩
        rw [eqI_eq] at h
        have : n = y := by simpa using h
        subst this
        exact ⟨by simp [Instr.sameBits], .int _ _⟩
      · simp at e
    · rename_i h1; simp at h1
    · simp at e
  · unfold eqFlat at e
    split at e
    · rename_i h1; simp at h1
    · rename_i h1; simp at h1
    · rename_i x y h1
      injection h1 with h1; subst h1
      obtain ⟨s', rfl, hs'⟩ := hk'.inv_str
      injection e with e; subst e
      subst hs'
      refine ⟨by simp only [Instr.sameNow]; rw [bytes_beq, eqStr_eq], fun h => ?_⟩
      rw [eqStr_eq] at h
      have : s.data.toList = s'.data.toList := by simpa using h
      have : s = s' := by cases s; cases s'; simp at this; rw [this]
      subst this
      exact ⟨by simp [Instr.sameBits, bytes_beq], .str _⟩
    · simp at e

/-- finding a key -/
structure Found (r : Rho) (kd : TypeDesc) (k : AV) (kv : Value) (es : List (AV × AV × Nat)) (l : List MapEntry) (v : AV) (n : Nat) where
  i : Nat
  e : MapEntry
  at_ : l[i]? = some e
  find : ∀ j, Instr.findNow kd kv l j = some (some (i + j, e.val))
  val : VR r v e.val
  born : e.born = n
  bits : Instr.sameBits 10000 e.key kv = true
  set : ∀ x u, VR r x u → EsR r (setMap k x es) (l.modify i fun e => { e with key := kv, val := u })
  setk : EsR r (setMap k v es) (l.modify i fun e => { e with key := kv })
  del : EsR r (delMap k es) (l.eraseIdx i)
theorem find_ok {kd : TypeDesc} {fk : FK} (hf : fkD kd = some fk) {k : AV} {kv : Value} (hk : VR r k kv) (ho : keyOk fk k = true) : ∀ {es : List (AV × AV × Nat)} {l : List MapEntry}, EsR r es l →
    (findMap k es = some none → ∀ j, Instr.findNow kd kv l j = some none) ∧ (∀ v n, findMap k es = some (some (v, n)) → Nonempty (Found r kd k kv es l v n))
  | [], [], _ => ⟨fun _ j => rfl, fun v n h => by simp [findMap] at h⟩
  | (k', v', n') :: es, e :: l, hE => by
    obtain ⟨h1, h2, h3, h4⟩ := hE
    obtain ⟨ih1, ih2⟩ := find_ok hf hk ho h4
    cases hq : eqFlat k k' with
    | none => constructor <;> simp [findMap, hq]
    | some b =>
      obtain ⟨s1, s2⟩ := sameNow_ok hf hk ho h1 hq
      cases b with
      | true =>
        obtain ⟨s3, s4⟩ := s2 rfl
        refine ⟨by simp [findMap, hq], fun v n hv => ?_⟩
        simp [findMap, hq] at hv
        obtain ⟨rfl, rfl⟩ := hv
        refine ⟨⟨0, e, rfl, fun j => by simp [Instr.findNow, s1], h2, h3.symm, s3, fun x u hu => ?_, ?_, ?_⟩⟩
        · simp only [setMap, hq, List.modify_zero_cons]
          exact ⟨hk, hu, h3, h4⟩
        · simp only [setMap, hq, List.modify_zero_cons]
          exact ⟨hk, h2, h3, h4⟩
        · simp only [delMap, hq]
          exact h4
      | false =>
        refine ⟨fun hv j => ?_, fun v n hv => ?_⟩
        · simp only [findMap, hq] at hv
          simp only [Instr.findNow, s1]
          exact ih1 hv _
        · simp only [findMap, hq] at hv
          obtain ⟨F⟩ := ih2 v n hv
          refine ⟨⟨F.i + 1, F.e, by simpa using F.at_, fun j => ?_, F.val, F.born, F.bits, fun x u hu => ?_, ?_, ?_⟩⟩
          · simp only [Instr.findNow, s1]
            rw [F.find]; congr 3; omega
          · simp only [setMap, hq, List.modify_succ_cons]
            exact ⟨h1, h2, h3, F.set x u hu⟩
          · simp only [setMap, hq, List.modify_succ_cons]
            exact ⟨h1, h2, h3, F.setk⟩
          · simp only [delMap, hq, List.eraseIdx_cons_succ]
            exact ⟨h1, h2, h3, F.del⟩
  | [], _ :: _, h => h.elim
  | _ :: _, [], h => h.elim
theorem snoc_ok {k x : AV} {kv xv : Value} {n : Nat} (hk : VR r k kv) (hx : VR r x xv) : ∀ {es : List (AV × AV × Nat)} {l : List MapEntry}, EsR r es l → EsR r (snoc es (k, x, n)) (l ++ [{ key := kv, val := xv, born := n }])
  | [], [], _ => ⟨hk, hx, rfl, trivial⟩
  | (_, _, _) :: es, e :: l, h => ⟨h.1, h.2.1, h.2.2.1, snoc_ok hk hx h.2.2.2⟩
  | [], _ :: _, h => h.elim
  | _ :: _, [], h => h.elim
theorem setBorn_ok {x : AV} {xv : Value} {n : Nat} (hx : VR r x xv) : ∀ {es : List (AV × AV × Nat)} {l : List MapEntry}, EsR r es l → hasBorn n es = true →
    ∃ i, l.findIdx? (fun e => (e.born : Int) == (n : Int)) = some i ∧ EsR r (setBorn n x es) (l.modify i fun e => { e with val := xv })
  | [], [], _, hb => by simp [hasBorn] at hb
  | (k, v, m) :: es, e :: l, h, hb => by
    obtain ⟨h1, h2, h3, h4⟩ := h
    cases hq : Nat.beq m n with
    | true =>
      have hmn := beq_iff.1 hq
      refine ⟨0, ?_, ?_⟩
      · rw [List.findIdx?_cons]
        have : ((e.born : Int) == (n : Int)) = true := by rw [← h3, hmn]; simp
        rw [this]; rfl
      · simp only [setBorn, hq, cond_true, List.modify_zero_cons]
        exact ⟨h1, hx, h3, h4⟩
    | false =>
      simp only [hasBorn, hq, cond_false] at hb
      obtain ⟨i, hi, hE⟩ := setBorn_ok hx h4 hb
      refine ⟨i + 1, ?_, ?_⟩
      · rw [List.findIdx?_cons]
        have : ((e.born : Int) == (n : Int)) = false := by
          have hne : m ≠ n := fun e => by rw [beq_iff.2 e] at hq; exact absurd hq (by simp)
          rw [← h3]
          have : (m : Int) ≠ (n : Int) := by omega
          simpa using this
        rw [this, hi]; rfl
      · simp only [setBorn, hq, cond_false, List.modify_succ_cons]
        exact ⟨h1, h2, h3, hE⟩
  | [], _ :: _, h, _ => h.elim
  | _ :: _, [], h, _ => h.elim
theorem EsR.length : ∀ {es : List (AV × AV × Nat)} {l : List MapEntry}, EsR r es l → es.length = l.length
  | [], [], _ => rfl
  | (_, _, _) :: _, _ :: _, h => by simp [EsR.length h.2.2.2]
  | [], _ :: _, h => h.elim
  | _ :: _, [], h => h.elim
end
end Go.AM
namespace Go.AM
open Go
variable [Env]
section
variable {P : Program} {r : Rho} {w : World} {h : H} {t : TM} {ρ : Operand → Value}

theorem checkKey_flat {kt : TypeId} {kd : TypeDesc} {fk : FK} (hu : P.underlying kt = some kd) (hf : fkD kd = some fk) (b : Bool) (v : Value) : (Instr.checkKey b 10000 kt v).run P w = .ok () w := by
  unfold Instr.checkKey
  simp only [Sem.run_bind, run_und hu, Result.andThen_ok]
  cases kd <;> simp [fkD] at hf <;> rfl
/-- no row of cells -/
def plainO (o : Go.Obj) : Bool := match o with | .cells _ _ _ => false | _ => true
theorem run_getObj {b : Nat} {o : Go.Obj} (hb : w.heap[b]? = some o) (hp : plainO o = true) : (getObj b).run P w = .ok o w := by
  cases o <;> first | (simp [plainO] at hp; done) | simp [getObj, Sem.run, hb]
/-- the world with something else in a place -/
def putObj (w : World) (b : Nat) (o : Go.Obj) : World := { w with heap := w.heap.setIfInBounds b o }
theorem run_setObj {b : Nat} {o o' : Go.Obj} (hb : w.heap[b]? = some o) (hp : plainO o = true) : (setObj b o').run P w = .ok () (putObj w b o') := by
  cases o <;> first | (simp [plainO] at hp; done) | simp [setObj, Sem.run, hb, putObj]
theorem putObj_same {b : Nat} {o o' : Go.Obj} (hb : w.heap[b]? = some o) : (putObj w b o').heap[b]? = some o' := by
  have := lt_of_heap hb
  simp [putObj, this]
theorem putObj_other {b x : Nat} {o' : Go.Obj} (hx : x ≠ b) : (putObj w b o').heap[x]? = w.heap[x]? := by
  simp [putObj, Array.getElem?_setIfInBounds, Ne.symm hx]
theorem putObj_size {b : Nat} {o' : Go.Obj} : (putObj w b o').heap.size = w.heap.size := by simp [putObj]
/-- a thing that is no row, in memory -/
theorem Rel.put (hr : Rel P r h w) {b : Nat} {o o' : Obj} {l : Loc} {O O' : Go.Obj} (hb : h.obj b = some o) (hc : clsOf o = 0) (hc' : clsOf o' = 0) (hl : r b = some l) (hO : w.heap[l.blk]? = some O)
    (ho : (putObj w l.blk O').heap[l.blk]? = some O' → ObjR P r (putObj w l.blk O') l o') :
    Rel P r (h.setObj b o') (putObj w l.blk O') ∧ Keeps r h w r (h.setObj b o') (putObj w l.blk O') :=
  hr.setObj hb hc hc' hl (fun x hx => putObj_other hx) putObj_size rfl rfl rfl (ho (putObj_same hO))

theorem mapObj (hr : Rel P r h w) {b : Nat} {es : List (AV × AV × Nat)} {c : Nat} (hb : h.obj b = some (.map es c)) : ∃ (l : Loc) (es' : List MapEntry), r b = some l ∧ l.sh = 0 ∧ w.heap[l.blk]? = some (.map es'.toArray c) ∧ EsR r es es' := by
  obtain ⟨l, hl, h0, es', hO, hE⟩ := hr.obj b _ hb (H.alive_zero _)
  exact ⟨l, es'.toList, hl, h0, by simpa using hO, hE⟩

theorem find_run {kt : TypeId} {kd : TypeDesc} (hu : P.underlying kt = some kd) {k : Value} {l : List MapEntry} {x : Option (Nat × Value)} (hf : Instr.findNow kd k l 0 = some x) : (Instr.findKey kt k l).run P w = .ok x w := by
  unfold Instr.findKey
  simp only [Sem.run_bind, run_und hu, Result.andThen_ok, hf]
  rfl
theorem cLookup_eq {ty : TypeId} {x k : AOpd} {ok : Bool} {fk : FK} {z : AV} (hc : cLookup P ty x k ok = .m3 (.lookup fk z ok x k)) :
    ∃ kt el kd i zv, P.underlying ty = some (.map kt el) ∧ P.underlying kt = some kd ∧ fkD kd = some fk ∧ P.info? el = some i ∧ i.zero = some zv ∧ ofValue zv = some z := by
  unfold cLookup at hc
  obtain ⟨d, hu, hc⟩ := withU_eq hc (by simp)
  cases d with
  | map kt el =>
    simp only at hc
    obtain ⟨kd, hk, hc⟩ := withU_eq hc (by simp)
    cases hf : fkD kd with
    | none => rw [hf] at hc; simp at hc
    | some fk' =>
      rw [hf] at hc
      simp only at hc
      obtain ⟨i, hi, hc⟩ := withT_eq hc (by simp)
      obtain ⟨zv, zx, hz, hzx, hc⟩ := zeroI_eq hc (by simp)
      simp at hc
      obtain ⟨rfl, rfl⟩ := hc
      exact ⟨kt, el, kd, i, zv, hu, hk, hf, hi, hz, hzx⟩
  | _ => simp at hc
theorem okAV_vr {ok : Bool} {x : AV} {v : Value} (hx : VR r x v) (b : Bool) : VR r (okAV ok x b) (if ok then .tuple #[v, .bool b] else v) := by
  cases ok with
  | true => exact .tup _ _ (.cons _ _ _ _ hx (.cons _ _ _ _ (.bool b) .nil))
  | false => exact hx
theorem lookup_ok (hr : Rel P r h w) {ty : TypeId} {o1 o2 : AOpd} {ok : Bool} {fk : FK} {z : AV} (hc : cLookup P ty o1 o2 ok = .m3 (.lookup fk z ok o1 o2)) {m k y : AV} {vm vk : Value} (hm : VR r m vm) (hk : VR r k vk) {h' : H}
    (e : lookupAV fk z ok m k h = .v y h') : h' = h ∧ Gives P r w (Instr.lookup ty vm vk ok) y := by
  obtain ⟨kt, el, kd, i, zv, hu, hku, hf, hi, hz, hzx⟩ := cLookup_eq hc
  unfold lookupAV at e
  obtain ⟨hko, e⟩ := bif_qr e
  have hzr := (ofValue_vr (r := r) hzx).1
  split at e
  · have := hm.inv_nilm; subst this
    unfold lookupR at e
    simp only [findMap] at e
    obtain ⟨rfl, rfl⟩ := qr_v e
    refine ⟨rfl, _, ?_, okAV_vr hzr false⟩
    have := find_run (P := P) (w := w) hku (k := vk) (l := []) (x := none) rfl
    unfold Instr.lookup
    simp only [Sem.run_bind, run_und hu, Result.andThen_ok, Sem.run_pure, checkKey_flat hku hf]
    rw [this]
    simp only [Result.andThen_ok, Sem.run_bind, run_zero hi hz, Sem.run_pure]
  · unfold mapOfR at e
    split at e
    · rename_i b
      split at e
      · rename_i es c hobj
        obtain ⟨l, es', hl, hl0, hO, hE⟩ := mapObj hr hobj
        obtain ⟨l', hl', rfl⟩ := hm.inv_map
        rw [hl] at hl'; injection hl' with hl'; subst hl'
        obtain ⟨f1, f2⟩ := find_ok hf hk hko hE
        simp only [lookupR] at e
        split at e
        · rename_i v n hq
          obtain ⟨rfl, rfl⟩ := qr_v e
          obtain ⟨F⟩ := f2 _ _ hq
          refine ⟨rfl, _, ?_, okAV_vr F.val true⟩
          have := find_run (P := P) (w := w) hku (F.find 0)
          unfold Instr.lookup
          simp only [Sem.run_bind, run_und hu, Result.andThen_ok, run_getObj hO rfl, checkKey_flat hku hf, this, Sem.run_pure]
        · rename_i hq
          obtain ⟨rfl, rfl⟩ := qr_v e
          refine ⟨rfl, _, ?_, okAV_vr hzr false⟩
          have := find_run (P := P) (w := w) hku (f1 hq 0)
          unfold Instr.lookup
          simp only [Sem.run_bind, run_und hu, Result.andThen_ok, run_getObj hO rfl, checkKey_flat hku hf, this, Sem.run_pure, run_zero hi hz]
        · simp at e
      · simp at e
    · simp at e
end
end Go.AM
namespace Go.AM
open Go
variable [Env]
section
variable {P : Program} {r : Rho} {w : World} {h : H} {t : TM} {ρ : Operand → Value}

/-- the same, of nothing -/
def MemU (P : Program) (r : Rho) (h : H) (w : World) (s : Sem Unit) (h' : H) : Prop :=
  ∃ w' r', s.run P w = .ok () w' ∧ Rel P r' h' w' ∧ Keeps r h w r' h' w'
theorem cMapUpdate_eq {ty : TypeId} {m k x : AOpd} {fk : FK} (hc : cMapUpdate P ty m k x = .m3 (.mapUpdate fk m k x)) : ∃ kt el kd, P.underlying ty = some (.map kt el) ∧ P.underlying kt = some kd ∧ fkD kd = some fk := by
  unfold cMapUpdate at hc
  obtain ⟨d, hu, hc⟩ := withU_eq hc (by simp)
  cases d with
  | map kt el =>
    simp only at hc
    obtain ⟨kd, hk, hc⟩ := withU_eq hc (by simp)
    cases hf : fkD kd with
    | none => rw [hf] at hc; simp at hc
    | some fk' =>
      rw [hf] at hc
      simp at hc
      subst hc
      exact ⟨kt, el, kd, hu, hk, hf⟩
  | _ => simp at hc
theorem cDelete_eq {ty : TypeId} {m k : AOpd} {fk : FK} (hc : cDelete P ty m k = .m3 (.delete fk m k)) : ∃ kt el kd, P.underlying ty = some (.map kt el) ∧ P.underlying kt = some kd ∧ fkD kd = some fk := by
  unfold cDelete at hc
  obtain ⟨d, hu, hc⟩ := withU_eq hc (by simp)
  cases d with
  | map kt el =>
    simp only at hc
    obtain ⟨kd, hk, hc⟩ := withU_eq hc (by simp)
    cases hf : fkD kd with
    | none => rw [hf] at hc; simp at hc
    | some fk' =>
      rw [hf] at hc
      simp at hc
      subst hc
      exact ⟨kt, el, kd, hu, hk, hf⟩
  | _ => simp at hc
theorem cMapEntry_eq {ty : TypeId} {x k : AOpd} {fk : FK} {z : AV} (hc : cMapEntry P ty x k = .m3 (.mapEntry fk z x k)) :
    ∃ kt el kd i zv, P.underlying ty = some (.map kt el) ∧ P.underlying kt = some kd ∧ fkD kd = some fk ∧ P.info? el = some i ∧ i.zero = some zv ∧ ofValue zv = some z := by
  unfold cMapEntry at hc
  obtain ⟨d, hu, hc⟩ := withU_eq hc (by simp)
  cases d with
  | map kt el =>
    simp only at hc
    obtain ⟨kd, hk, hc⟩ := withU_eq hc (by simp)
    cases hf : fkD kd with
    | none => rw [hf] at hc; simp at hc
    | some fk' =>
      rw [hf] at hc
      simp only at hc
      obtain ⟨i, hi, hc⟩ := withT_eq hc (by simp)
      obtain ⟨zv, zx, hz, hzx, hc⟩ := zeroI_eq hc (by simp)
      simp at hc
      obtain ⟨rfl, rfl⟩ := hc
      exact ⟨kt, el, kd, i, zv, hu, hk, hf, hi, hz, hzx⟩
  | _ => simp at hc
theorem mapOfR_eq {m y : AV} {h h' : H} {f : Nat → List (AV × AV × Nat) → Nat → QR} (e : mapOfR m h f = .v y h') : ∃ b es c, m = .map b ∧ h.obj b = some (.map es c) ∧ f b es c = .v y h' := by
  unfold mapOfR at e
  split at e
  · split at e
    · rename_i b _ es c hb; exact ⟨b, es, c, rfl, hb, e⟩
    · simp at e
  · simp at e
theorem keyStays {k kv : Value} (h : Instr.sameBits 10000 k kv = true) (w : World) : (Instr.keyThatStays k kv).run P w = .ok kv w := by
  unfold Instr.keyThatStays; rw [if_pos h]; rfl
theorem modify_arr (l : List MapEntry) (i : Nat) (f : MapEntry → MapEntry) : l.toArray.modify i f = (l.modify i f).toArray := by
  apply Array.ext'
  simp
theorem mapUpdate_ok (hr : Rel P r h w) {ty : TypeId} {o1 o2 o3 : AOpd} {fk : FK} (hc : cMapUpdate P ty o1 o2 o3 = .m3 (.mapUpdate fk o1 o2 o3)) {m k x y : AV} {vm vk vx : Value} (hm : VR r m vm) (hk : VR r k vk) (hx : VR r x vx) {h' : H}
    (e : mapUpdateAV fk m k x h = .v y h') : y = .undef ∧ MemU P r h w (Instr.mapUpdate ty vm vk vx) h' := by
  obtain ⟨kt, el, kd, hu, hku, hf⟩ := cMapUpdate_eq hc
  unfold mapUpdateAV at e
  obtain ⟨hko, e⟩ := bif_qr e
  obtain ⟨b, es, c, rfl, hobj, e⟩ := mapOfR_eq e
  obtain ⟨l, es', hl, hl0, hO, hE⟩ := mapObj hr hobj
  obtain ⟨l', hl', rfl⟩ := hm.inv_map
  rw [hl] at hl'; injection hl' with hl'; subst hl'
  obtain ⟨f1, f2⟩ := find_ok hf hk hko hE
  split at e
  · rename_i q hq
    obtain ⟨v, n⟩ := q
    obtain ⟨rfl, rfl⟩ := qr_v e
    obtain ⟨F⟩ := f2 _ _ hq
    obtain ⟨p1, p2⟩ := hr.put (o' := .map (setMap k x es) c) (O' := .map (es'.modify F.i fun (e : MapEntry) => ({ e with key := vk, val := vx } : MapEntry)).toArray c) hobj rfl rfl hl hO (fun hh => ⟨hl0, _, hh, F.set x vx hx⟩)
    refine ⟨rfl, _, r, ?_, p1, p2⟩
    have := find_run (P := P) (w := w) hku (F.find 0)
    unfold Instr.mapUpdate
    simp only [Sem.run_bind, run_und hu, Result.andThen_ok, run_getObj hO rfl, checkKey_flat hku hf, this, Nat.add_zero, List.getElem?_toArray, F.at_, Option.map_some, Option.getD_some, keyStays F.bits, run_setObj hO rfl, modify_arr]
  · rename_i hq
    obtain ⟨rfl, rfl⟩ := qr_v e
    obtain ⟨p1, p2⟩ := hr.put (o' := .map (snoc es (k, x, c)) (c + 1)) (O' := .map (es' ++ [({ key := vk, val := vx, born := c } : MapEntry)]).toArray (c + 1)) hobj rfl rfl hl hO (fun hh => ⟨hl0, _, hh, snoc_ok hk hx hE⟩)
    refine ⟨rfl, _, r, ?_, p1, p2⟩
    have := find_run (P := P) (w := w) hku (f1 hq 0)
    unfold Instr.mapUpdate
    simp only [Sem.run_bind, run_und hu, Result.andThen_ok, run_getObj hO rfl, checkKey_flat hku hf, this, List.push_toArray, run_setObj hO rfl]
  · simp at e
theorem insert_ok {ty : TypeId} {a b c : Value} : Instr.mapUpdate ty a b c = Instr.mapUpdate ty a b c := rfl
theorem mapEntry_ok (hr : Rel P r h w) {ty : TypeId} {o1 o2 : AOpd} {fk : FK} {z : AV} (hc : cMapEntry P ty o1 o2 = .m3 (.mapEntry fk z o1 o2)) {m k y : AV} {vm vk : Value} (hm : VR r m vm) (hk : VR r k vk) {h' : H}
    (e : mapEntryAV fk z m k h = .v y h') : MemV P r h w (Instr.mapEntry ty vm vk) y h' := by
  obtain ⟨kt, el, kd, i, zv, hu, hku, hf, hi, hz, hzx⟩ := cMapEntry_eq hc
  have hzr := (ofValue_vr (r := r) hzx).1
  unfold mapEntryAV at e
  obtain ⟨hko, e⟩ := bif_qr e
  obtain ⟨b, es, c, rfl, hobj, e⟩ := mapOfR_eq e
  obtain ⟨l, es', hl, hl0, hO, hE⟩ := mapObj hr hobj
  obtain ⟨l', hl', rfl⟩ := hm.inv_map
  rw [hl] at hl'; injection hl' with hl'; subst hl'
  obtain ⟨f1, f2⟩ := find_ok hf hk hko hE
  split at e
  · rename_i v n hq
    obtain ⟨rfl, rfl⟩ := qr_v e
    obtain ⟨F⟩ := f2 _ _ hq
    obtain ⟨p1, p2⟩ := hr.put (o' := .map (setMap k v es) c) (O' := .map (es'.modify F.i fun (e : MapEntry) => ({ e with key := vk } : MapEntry)).toArray c) hobj rfl rfl hl hO (fun hh => ⟨hl0, _, hh, F.setk⟩)
    refine ⟨_, _, r, ?_, .tup _ _ (.cons _ _ _ _ F.val (.cons _ _ _ _ (.int .i64 n) .nil)), p1, p2⟩
    have := find_run (P := P) (w := w) hku (F.find 0)
    unfold Instr.mapEntry
    simp only [Sem.run_bind, run_und hu, Result.andThen_ok, run_getObj hO rfl, checkKey_flat hku hf, this, Nat.add_zero, List.getElem?_toArray, F.at_, Option.map_some, Option.getD_some, keyStays F.bits, run_setObj hO rfl, modify_arr, F.born]
    rfl
  · rename_i hq
    obtain ⟨rfl, rfl⟩ := qr_v e
    obtain ⟨p1, p2⟩ := hr.put (o' := .map (snoc es (k, z, c)) (c + 1)) (O' := .map (es' ++ [({ key := vk, val := zv, born := c } : MapEntry)]).toArray (c + 1)) hobj rfl rfl hl hO (fun hh => ⟨hl0, _, hh, snoc_ok hk hzr hE⟩)
    refine ⟨_, _, r, ?_, .tup _ _ (.cons _ _ _ _ hzr (.cons _ _ _ _ (.int .i64 c) .nil)), p1, p2⟩
    have := find_run (P := P) (w := w) hku (f1 hq 0)
    unfold Instr.mapEntry
    simp only [Sem.run_bind, run_und hu, Result.andThen_ok, run_getObj hO rfl, checkKey_flat hku hf, this, List.push_toArray, run_setObj hO rfl, run_zero hi hz]
    rfl
  · simp at e
theorem entryStore_ok (hr : Rel P r h w) (ty : TypeId) {m s x y : AV} {vm vs vx : Value} (hm : VR r m vm) (hs : VR r s vs) (hx : VR r x vx) {h' : H}
    (e : entryStoreAV m s x h = .v y h') : y = .undef ∧ MemU P r h w (Instr.entryStore ty vm vs vx) h' := by
  unfold entryStoreAV at e
  split at e
  · rename_i j n
    have := hs.inv_int; subst this
    obtain ⟨b, es, c, rfl, hobj, e⟩ := mapOfR_eq e
    obtain ⟨hb, e⟩ := bif_qr e
    obtain ⟨rfl, rfl⟩ := qr_v e
    obtain ⟨l, es', hl, hl0, hO, hE⟩ := mapObj hr hobj
    obtain ⟨l', hl', rfl⟩ := hm.inv_map
    rw [hl] at hl'; injection hl' with hl'; subst hl'
    obtain ⟨i, hi, hE'⟩ := setBorn_ok hx hE hb
    obtain ⟨p1, p2⟩ := hr.put (o' := .map (setBorn n x es) c) (O' := .map (es'.modify i fun (e : MapEntry) => ({ e with val := vx } : MapEntry)).toArray c) hobj rfl rfl hl hO (fun hh => ⟨hl0, _, hh, hE'⟩)
    refine ⟨rfl, _, r, ?_, p1, p2⟩
    unfold Instr.entryStore
    have hfi : es'.toArray.findIdx? (fun e => (e.born : Int) == (Int.ofNat n)) = some i := by rw [List.findIdx?_toArray]; exact hi
    simp only [Sem.run_bind, run_getObj hO rfl, Result.andThen_ok, run_asInt, hfi, run_setObj hO rfl, modify_arr]
  · simp at e
theorem delete_ok (hr : Rel P r h w) {ty : TypeId} {o1 o2 : AOpd} {fk : FK} (hc : cDelete P ty o1 o2 = .m3 (.delete fk o1 o2)) {m k y : AV} {vm vk : Value} (hm : VR r m vm) (hk : VR r k vk) {h' : H}
    (e : deleteAV fk m k h = .v y h') (ts : Array TypeId) (as : Array Value) (ht : ts[0]? = some ty) (h0 : as[0]? = some vm) (h1 : as[1]? = some vk) (ty' : TypeId) : MemV P r h w (Builtin.delete_ ts ty' as) y h' := by
  obtain ⟨kt, el, kd, hu, hku, hf⟩ := cDelete_eq hc
  unfold deleteAV at e
  obtain ⟨hko, e⟩ := bif_qr e
  split at e
  · have := hm.inv_nilm; subst this
    obtain ⟨rfl, rfl⟩ := qr_v e
    refine ⟨.tuple #[], w, r, ?_, .tup _ _ .nil, hr, Keeps.refl r h w⟩
    unfold Builtin.delete_
    simp only [ht, h0, h1, Sem.run_bind, run_und hu, Result.andThen_ok, checkKey_flat hku hf]
    rfl
  · obtain ⟨b, es, c, rfl, hobj, e⟩ := mapOfR_eq e
    obtain ⟨l, es', hl, hl0, hO, hE⟩ := mapObj hr hobj
    obtain ⟨l', hl', rfl⟩ := hm.inv_map
    rw [hl] at hl'; injection hl' with hl'; subst hl'
    obtain ⟨f1, f2⟩ := find_ok hf hk hko hE
    split at e
    · rename_i q hq
      obtain ⟨v, n⟩ := q
      obtain ⟨rfl, rfl⟩ := qr_v e
      obtain ⟨F⟩ := f2 _ _ hq
      obtain ⟨p1, p2⟩ := hr.put (o' := .map (delMap k es) c) (O' := .map (es'.eraseIdx F.i).toArray c) hobj rfl rfl hl hO (fun hh => ⟨hl0, _, hh, F.del⟩)
      refine ⟨.tuple #[], _, r, ?_, .tup _ _ .nil, p1, p2⟩
      have := find_run (P := P) (w := w) hku (F.find 0)
      have he : es'.toArray.eraseIdxIfInBounds F.i = (es'.eraseIdx F.i).toArray := by simp
      unfold Builtin.delete_
      simp only [ht, h0, h1, Sem.run_bind, run_und hu, Result.andThen_ok, run_getObj hO rfl, checkKey_flat hku hf, this, Nat.add_zero, run_setObj hO rfl, he]
      rfl
    · rename_i hq
      obtain ⟨rfl, rfl⟩ := qr_v e
      have := find_run (P := P) (w := w) hku (f1 hq 0)
      obtain ⟨p1, p2⟩ := hr.put (o' := .map es c) (O' := .map es'.toArray c) hobj rfl rfl hl hO (fun hh => ⟨hl0, _, hh, hE⟩)
      have hw : putObj w l.blk (.map es'.toArray c) = w := by
        unfold putObj
        have : w.heap.setIfInBounds l.blk (.map es'.toArray c) = w.heap := by
          apply Array.ext'
          apply List.ext_getElem?
          intro i
          simp only [Array.getElem?_toList, Array.getElem?_setIfInBounds]
          by_cases hi : l.blk = i
          · subst hi; have := lt_of_heap hO; simp [this]; exact (Array.getElem?_eq_some_iff.1 hO).2.symm
          · simp [hi]
        rw [this]
      refine ⟨.tuple #[], w, r, ?_, .tup _ _ .nil, hr, Keeps.refl r _ w⟩
      unfold Builtin.delete_
      simp only [ht, h0, h1, Sem.run_bind, run_und hu, Result.andThen_ok, run_getObj hO rfl, checkKey_flat hku hf, this, run_setObj hO rfl, hw]
      rfl
    · simp at e
end
end Go.AM
namespace Go.AM
open Go
variable [Env]
section
variable {P : Program} {r : Rho} {w : World} {h : H} {t : TM} {ρ : Operand → Value}

theorem iter_new (hr : Rel P r h w) (o : Obj) (O : Go.Obj) (hc : clsOf o = 0) (ho : ∀ r', r.le r' → ObjR P r' (w.alloc O) ⟨w.heap.size, 0, 0, 0⟩ o) {y : AV} {h' : H} (e : ptrOf (h.new o) = .v y h') :
    ∃ r', VR r' y (.pointer (some ⟨w.heap.size, 0, none⟩)) ∧ Rel P r' h' (w.alloc O) ∧ Keeps r h w r' h' (w.alloc O) := by
  cases hn : h.new o with
  | mk b h1 =>
  rw [hn] at e
  obtain ⟨rfl, rfl⟩ := qr_v (show QR.v (.ptr b 0) h1 = .v y h' from e)
  have hb : r b = none := by have := H.new_nextOf h o hr.pos.2; rw [hn] at this; have this : b = h.nextOf := this; rw [this]; exact hr.fresh
  obtain ⟨h2, h3⟩ := hr.new o O 0 0 hc hn (ho _ (Rho.le_upd r b _ hb))
  exact ⟨_, ptr_new (Rho.upd_same r b _), h2, h3⟩
theorem range_ok (hr : Rel P r h w) {ty : TypeId} {o : AOpd} {st : Bool} (hc : cRange P ty o = .m3 (.range st o)) {x y : AV} {vx : Value} (hx : VR r x vx) {h' : H} (e : rangeAV st x h = .v y h') : MemV P r h w (Instr.range ty vx) y h' := by
  unfold cRange at hc
  obtain ⟨d, hu, hc⟩ := withU_eq hc (by simp)
  have hd : (st = true ∧ d = .string) ∨ (st = false ∧ ∃ a b, d = .map a b) := by
    cases d <;> simp at hc
    · exact .inl ⟨hc, rfl⟩
    · exact .inr ⟨hc, _, _, rfl⟩
  unfold rangeAV at e
  split at e
  · obtain ⟨hb, e⟩ := bif_qr e
    subst hb
    obtain ⟨_, rfl⟩ := hd.resolve_right (by simp)
    obtain ⟨sb, rfl, hs⟩ := hx.inv_str
    obtain ⟨r', h1, h2, h3⟩ := iter_new hr (.siter _ 0) (.stringIter sb 0) rfl (fun r' _ => ⟨rfl, sb, heap_alloc_new w _, hs⟩) e
    refine ⟨_, _, r', ?_, h1, h2, h3⟩
    unfold Instr.range
    simp only [Sem.run_bind, run_und hu, Result.andThen_ok, Sem.run_pure, run_newObj_alloc]
  · cases st with
    | true => simp at e
    | false =>
      simp only [cond_false] at e
      obtain ⟨_, a, b, rfl⟩ := hd.resolve_left (by simp)
      have := hx.inv_nilm; subst this
      obtain ⟨r', h1, h2, h3⟩ := iter_new hr (.miter none 0 [] 0) (.mapIter none 0 #[] 0) rfl (fun r' _ => ⟨rfl, none, heap_alloc_new w _, trivial⟩) e
      refine ⟨_, _, r', ?_, h1, h2, h3⟩
      unfold Instr.range
      simp only [Sem.run_bind, run_und hu, Result.andThen_ok, Sem.run_pure, run_newObj_alloc]
  · rename_i m
    cases st with
    | true => simp at e
    | false =>
      simp only [cond_false] at e
      obtain ⟨_, a, b, rfl⟩ := hd.resolve_left (by simp)
      split at e
      · rename_i es c hobj
        obtain ⟨l, es', hl, hl0, hO, hE⟩ := mapObj hr hobj
        obtain ⟨l', hl', rfl⟩ := hx.inv_map
        rw [hl] at hl'; injection hl' with hl'; subst hl'
        obtain ⟨r', h1, h2, h3⟩ := iter_new hr (.miter (some m) c [] c) (.mapIter (some l.blk) c #[] c) rfl (fun r' hle => ⟨rfl, some l.blk, heap_alloc_new w _, l, hle _ _ hl, rfl⟩) e
        refine ⟨_, _, r', ?_, h1, h2, h3⟩
        unfold Instr.range
        simp only [Sem.run_bind, run_und hu, Result.andThen_ok, Sem.run_pure, run_getObj hO rfl, run_newObj_alloc]
      · simp at e
  · simp at e

theorem decodeAt_eq (sb : ByteArray) (pos : Nat) (c : UInt8) (l : List UInt8) (h : sb.data.toList.drop pos = c :: l) : decodeAt sb.data.toList pos c = Utf8.decode sb pos ∧ pos < sb.size := by
  have hlt : pos < sb.size := by
    rw [size_eq]
    rcases Nat.lt_or_ge pos sb.data.toList.length with h' | h'
    · exact h'
    · rw [List.drop_eq_nil_of_le h'] at h; simp at h
  refine ⟨?_, hlt⟩
  unfold decodeAt
  have hsb : (⟨sb.data.toList.toArray⟩ : ByteArray) = sb := by cases sb; rfl
  rw [hsb]
  cases hc : Nat.ble c.toNat 127 with
  | false => rfl
  | true =>
    have hc := ble_iff.1 hc
    have hl : sb.data.toList[pos]? = some c := by
      have := congrArg (·[0]?) h
      simpa [List.getElem?_drop] using this
    have hl' : sb.data[pos]? = some c := by rw [← Array.getElem?_toList]; exact hl
    have hget : sb.get! (pos + 0) = c := by
      show sb.data[pos]! = c
      rw [getElem!_def, hl']
    unfold Utf8.decode
    simp only [hget]
    rw [if_pos (by omega)]
    rfl

theorem iterObj (hr : Rel P r h w) {b : Nat} {o : Obj} (hb : h.obj b = some o) (hc : clsOf o = 0) {v : Value} (hx : VR r (.ptr b 0) v) : ∃ l, r b = some l ∧ ObjR P r w l o ∧ v = .pointer (some ⟨l.blk, 0 + l.sh, none⟩) := by
  obtain ⟨l, hl, hO⟩ := hr.obj b _ hb (by unfold Live; rw [hc]; exact H.alive_zero _)
  obtain ⟨l', hl', rfl⟩ := hx.inv_ptr
  rw [hl] at hl'; injection hl' with hl'; subst hl'
  exact ⟨l, hl, hO, rfl⟩
theorem leftOf_ok (seen : List Nat) : ∀ {es : List (AV × AV × Nat)} {l : List MapEntry}, EsR r es l → EsR r (leftOf seen es) (l.filter fun e => !seen.contains e.born)
  | [], [], _ => trivial
  | (k, v, n) :: es, e :: l, h => by
    obtain ⟨h1, h2, h3, h4⟩ := h
    have ih := leftOf_ok seen h4
    have hm : memN n seen = seen.contains e.born := by
      rw [← h3]
      clear ih
      induction seen with
      | nil => rfl
      | cons m seen ihs =>
        unfold memN
        rw [List.contains_cons]
        cases hq : Nat.beq n m with
        | true => have := beq_iff.1 hq; subst this; simp
        | false =>
          have hne : n ≠ m := fun e => by rw [beq_iff.2 e] at hq; exact absurd hq (by simp)
          simp [hne, ihs]
    unfold leftOf
    rw [hm, List.filter_cons]
    cases hq : seen.contains e.born with
    | true => simpa using ih
    | false => simp only [cond_false, Bool.not_false, if_true]; exact ⟨h1, h2, h3, ih⟩
  | [], _ :: _, h => h.elim
  | _ :: _, [], h => h.elim
theorem bornOk_ok {seen : List Nat} {last : Nat} {es : List (AV × AV × Nat)} {l : List MapEntry} (hE : EsR r es l) (h : bornOk seen last es = true) :
    (!seen.toArray.isEmpty && !l.toArray.isEmpty && l.toArray.all (fun e => decide (e.born ≥ last))) = false := by
  unfold bornOk at h
  split at h
  · rfl
  · cases l with
    | nil => simp
    | cons e l => exact hE.elim
  · have key : ∀ {es : List (AV × AV × Nat)} {l : List MapEntry}, EsR r es l → anyBefore last es = true → l.all (fun e => decide (e.born ≥ last)) = false := by
      intro es
      induction es with
      | nil => intro l _ h; simp [anyBefore] at h
      | cons x es ih =>
        intro l hE h
        obtain ⟨k, v, n⟩ := x
        cases l with
        | nil => exact hE.elim
        | cons e l =>
          obtain ⟨h1, h2, h3, h4⟩ := hE
          unfold anyBefore at h
          rw [List.all_cons]
          cases hq : Nat.ble (Nat.succ n) last with
          | true =>
            have := ble_iff.1 hq
            have : decide (e.born ≥ last) = false := by rw [← h3]; simp; omega
            rw [this]; rfl
          | false =>
            rw [hq] at h
            rw [ih h4 h]; simp
    rw [List.all_toArray, key hE h]
    simp
theorem next_ok (hr : Rel P r h w) (st : Bool) (ty : TypeId) {x y : AV} {vx : Value} (hx : VR r x vx) {h' : H} (e : nextAV x st h = .v y h') : MemV P r h w (Instr.next vx st ty) y h' := by
  unfold nextAV at e
  split at e
  · rename_i b
    split at e
    · -- over a text
      rename_i s pos hobj
      obtain ⟨hst, e⟩ := bif_qr e
      subst hst
      obtain ⟨l, hl, ⟨h0, sb, hO, hs⟩, rfl⟩ := iterObj hr hobj rfl hx
      rw [h0]
      unfold nextStr at e
      split at e
      · rename_i hd
        obtain ⟨rfl, rfl⟩ := qr_v e
        refine ⟨_, w, r, ?_, .tup _ _ (.cons _ _ _ _ (.bool false) .nil), hr, Keeps.refl r _ w⟩
        have hge : ¬ pos < sb.size := by
          have := List.drop_eq_nil_iff.1 hd
          rw [size_eq, hs]; omega
        unfold Instr.next
        simp only [Sem.run_bind, run_getObj hO rfl, Result.andThen_ok, if_neg hge]
        rfl
      · rename_i c rest hd
        rw [← hs] at hd e
        obtain ⟨hdec, hlt⟩ := decodeAt_eq sb pos c rest hd
        rw [hdec] at e
        simp only [forceN_eq] at e
        obtain ⟨rfl, rfl⟩ := qr_v e
        obtain ⟨p1, p2⟩ := hr.put (o' := .siter sb.data.toList (pos + (Utf8.decode sb pos).2)) (O' := .stringIter sb (pos + (Utf8.decode sb pos).2)) hobj rfl rfl hl hO (fun hh => ⟨h0, sb, hh, rfl⟩)
        refine ⟨_, _, r, ?_, .tup _ _ (.cons _ _ _ _ (.bool true) (.cons _ _ _ _ (.int .i64 (Int.ofNat pos)) (.cons _ _ _ _ (.int .i32 (Int.ofNat (Utf8.decode sb pos).1)) .nil))), p1, p2⟩
        unfold Instr.next
        simp only [Sem.run_bind, run_getObj hO rfl, Result.andThen_ok, if_pos hlt, run_setObj hO rfl]
        rfl
    · -- over no map
      rename_i since seen st' hobj
      cases st with
      | true => simp at e
      | false =>
        simp only [cond_false] at e
        obtain ⟨rfl, rfl⟩ := qr_v e
        obtain ⟨l, hl, ⟨h0, m', hO, hm⟩, rfl⟩ := iterObj hr hobj rfl hx
        rw [h0]
        cases m' with
        | some m' => exact hm.elim
        | none =>
        refine ⟨_, w, r, ?_, .tup _ _ (.cons _ _ _ _ (.bool false) .nil), hr, Keeps.refl r _ w⟩
        unfold Instr.next
        simp only [Sem.run_bind, run_getObj hO rfl, Result.andThen_ok]
        rfl
    · -- over a map
      rename_i m since seen st' hobj
      cases st with
      | true => simp at e
      | false =>
        simp only [cond_false] at e
        obtain ⟨l, hl, ⟨h0, m', hO, hm⟩, rfl⟩ := iterObj hr hobj rfl hx
        rw [h0]
        cases m' with
        | none => exact hm.elim
        | some m' =>
        obtain ⟨la, hla, rfl⟩ := hm
        unfold nextMap at e
        split at e
        · rename_i es clock hmobj
          obtain ⟨hck, e⟩ := bif_qr e
          simp only [Bool.and_eq_true] at hck
          obtain ⟨hck, hbo⟩ := hck
          have hck := beq_iff.1 hck
          subst hck
          obtain ⟨l2, es', hl2, hl20, hO2, hE⟩ := mapObj hr hmobj
          rw [hla] at hl2; injection hl2 with hl2; subst hl2
          have hbo' := bornOk_ok hE hbo
          have hleft := leftOf_ok seen hE
          have hfil : es'.toArray.filter (fun e => !seen.toArray.contains e.born) = (es'.filter fun e => !seen.contains e.born).toArray := by
            rw [List.filter_toArray]; congr 1
            apply List.filter_congr; intro x _; rw [List.contains_toArray]
          split at e
          · rename_i hlq
            obtain ⟨rfl, rfl⟩ := qr_v e
            rw [hlq] at hleft
            have hnil : (es'.filter fun e => !seen.contains e.born) = [] := by
              cases hh : (es'.filter fun e => !seen.contains e.born) with
              | nil => rfl
              | cons a b => rw [hh] at hleft; exact hleft.elim
            rw [hnil] at hfil
            refine ⟨_, w, r, ?_, .tup _ _ (.cons _ _ _ _ (.bool false) .nil), hr, Keeps.refl r _ w⟩
            unfold Instr.next
            simp only [Sem.run_bind, run_getObj hO rfl, run_getObj hO2 rfl, Result.andThen_ok, hbo', Bool.false_eq_true, if_false, hfil]
            simp [Question.forced]
          · rename_i k v n hlq
            obtain ⟨hlt, e⟩ := bif_qr e
            have hlt := ble_iff.1 hlt
            obtain ⟨rfl, rfl⟩ := qr_v e
            rw [hlq] at hleft
            have hone : ∃ en : MapEntry, (es'.filter fun e => !seen.contains e.born) = [en] ∧ VR r k en.key ∧ VR r v en.val ∧ n = en.born := by
              cases hh : (es'.filter fun e => !seen.contains e.born) with
              | nil => rw [hh] at hleft; exact hleft.elim
              | cons a b =>
                rw [hh] at hleft
                obtain ⟨q1, q2, q3, q4⟩ := hleft
                cases b with
                | nil => exact ⟨a, rfl, q1, q2, q3⟩
                | cons _ _ => exact q4.elim
            obtain ⟨en, hen, q1, q2, rfl⟩ := hone
            rw [hen] at hfil
            have hpush : (seen ++ [en.born]).toArray = seen.toArray.push en.born := by simp
            obtain ⟨p1, p2⟩ := hr.put (o' := .miter (some m) clock (seen ++ [en.born]) clock) (O' := .mapIter (some la.blk) clock (seen.toArray.push en.born) clock) hobj rfl rfl hl hO (fun hh => ⟨h0, some la.blk, by rw [hpush]; exact hh, la, hla, rfl⟩)
            refine ⟨_, _, r, ?_, .tup _ _ (.cons _ _ _ _ (.bool true) (.cons _ _ _ _ q1 (.cons _ _ _ _ q2 .nil))), p1, p2⟩
            have hlt' : en.born < clock := hlt
            unfold Instr.next
            simp only [Sem.run_bind, run_getObj hO rfl, run_getObj hO2 rfl, Result.andThen_ok, hbo', Bool.false_eq_true, if_false, hfil]
            simp [Question.forced, hlt', run_setObj hO rfl, Nat.not_le.2 hlt']
          · simp at e
        · simp at e
    · simp at e
  · simp at e
theorem lastN_eq : ∀ (l : List Nat), lastN l = l.getLast?
  | [] => rfl
  | [x] => rfl
  | x :: y :: l => by
    show lastN (y :: l) = _
    rw [lastN_eq (y :: l)]
    simp [List.getLast?_cons]
theorem findBorn_ok {n : Nat} : ∀ {es : List (AV × AV × Nat)} {l : List MapEntry}, EsR r es l → ∀ k v, findBorn n es = some (k, v) → ∃ e, l.find? (fun e => e.born == n) = some e ∧ VR r k e.key ∧ VR r v e.val
  | [], [], _, k, v, h => by simp [findBorn] at h
  | (k', v', m) :: es, e :: l, hE, k, v, h => by
    obtain ⟨h1, h2, h3, h4⟩ := hE
    unfold findBorn at h
    rw [List.find?_cons]
    cases hq : Nat.beq m n with
    | true =>
      rw [hq] at h
      injection h with h; injection h with ha hb; subst ha; subst hb
      have : (e.born == n) = true := by rw [← h3, beq_iff.1 hq]; simp
      rw [this]
      exact ⟨e, rfl, h1, h2⟩
    | false =>
      rw [hq] at h
      have : (e.born == n) = false := by
        have hne : m ≠ n := fun e => by rw [beq_iff.2 e] at hq; exact absurd hq (by simp)
        rw [← h3]; simpa using hne
      rw [this]
      exact findBorn_ok h4 k v h
  | [], _ :: _, h, _, _, _ => h.elim
  | _ :: _, [], h, _, _, _ => h.elim
theorem entry_ok (hr : Rel P r h w) {x y : AV} {vx : Value} (hx : VR r x vx) {h' : H} (e : entryAV x h = .v y h') : MemV P r h w (Instr.entry vx) y h' := by
  unfold entryAV at e
  split at e
  · rename_i b
    split at e
    · rename_i m since seen st hobj
      obtain ⟨l, hl, ⟨h0, m', hO, hm⟩, rfl⟩ := iterObj hr hobj rfl hx
      rw [h0]
      cases m' with
      | none => exact hm.elim
      | some m' =>
      obtain ⟨la, hla, rfl⟩ := hm
      unfold entryR at e
      split at e
      · rename_i es clock n hmobj hlast
        have hck := beq_iff.1 (bif_qr e).1
        have e' := (bif_qr e).2
        clear e
        subst hck
        obtain ⟨l2, es', hl2, hl20, hO2, hE⟩ := mapObj hr hmobj
        rw [hla] at hl2; injection hl2 with hl2; subst hl2
        split at e'
        · rename_i k v hfb
          obtain ⟨rfl, rfl⟩ := qr_v e'
          obtain ⟨en, hen, q1, q2⟩ := findBorn_ok hE k v hfb
          refine ⟨_, w, r, ?_, .tup _ _ (.cons _ _ _ _ q1 (.cons _ _ _ _ q2 .nil)), hr, Keeps.refl r _ w⟩
          have hback : seen.toArray.back? = some n := by rw [List.back?_toArray, ← lastN_eq]; exact hlast
          have hfind : es'.toArray.find? (fun e => e.born == n) = some en := by rw [List.find?_toArray]; exact hen
          unfold Instr.entry
          simp only [Sem.run_bind, run_getObj hO rfl, run_getObj hO2 rfl, Result.andThen_ok, hback, bne_self_eq_false, Bool.false_eq_true, if_false, hfind]
          rfl
        · simp at e'
      · simp at e
    · simp at e
  · simp at e
end
end Go.AM
namespace Go.AM
open Go
variable [Env]
noncomputable def memQ (t : TM) (h : H) (q : AOp) : QR := match q with
  | .m1 o => doM1 t h o
  | .m2 o => doM2 t h o
  | .m3 o => doM3 t h o
  | _ => .no
section
variable {P : Program} {r : Rho} {w : World} {h h' : H} {t : TM} {ρ : Operand → Value} {z : AV} {q : AOp}

theorem memQ_bad (e : memQ t h q = .v z h') : q ≠ .bad := by rintro rfl; simp [memQ] at e
theorem form_lookup {ty : TypeId} {x k : AOpd} {ok : Bool} (e : cLookup P ty x k ok = q) (hb : q ≠ .bad) : ∃ fk z, q = .m3 (.lookup fk z ok x k) := by
  unfold cLookup at e
  obtain ⟨d, _, e⟩ := withU_eq e hb
  cases d with
  | map kt el =>
    simp only at e
    obtain ⟨kd, _, e⟩ := withU_eq e hb
    cases hf : fkD kd with
    | none => rw [hf] at e; exact absurd e.symm hb
    | some fk =>
      rw [hf] at e; simp only at e
      obtain ⟨i, _, e⟩ := withT_eq e hb
      obtain ⟨zv, zx, _, _, e⟩ := zeroI_eq e hb
      exact ⟨fk, zx, e.symm⟩
  | _ => exact absurd e.symm hb
theorem form_mapEntry {ty : TypeId} {x k : AOpd} (e : cMapEntry P ty x k = q) (hb : q ≠ .bad) : ∃ fk z, q = .m3 (.mapEntry fk z x k) := by
  unfold cMapEntry at e
  obtain ⟨d, _, e⟩ := withU_eq e hb
  cases d with
  | map kt el =>
    simp only at e
    obtain ⟨kd, _, e⟩ := withU_eq e hb
    cases hf : fkD kd with
    | none => rw [hf] at e; exact absurd e.symm hb
    | some fk =>
      rw [hf] at e; simp only at e
      obtain ⟨i, _, e⟩ := withT_eq e hb
      obtain ⟨zv, zx, _, _, e⟩ := zeroI_eq e hb
      exact ⟨fk, zx, e.symm⟩
  | _ => exact absurd e.symm hb
theorem form_mapUpdate {ty : TypeId} {m k x : AOpd} (e : cMapUpdate P ty m k x = q) (hb : q ≠ .bad) : ∃ fk, q = .m3 (.mapUpdate fk m k x) := by
  unfold cMapUpdate at e
  obtain ⟨d, _, e⟩ := withU_eq e hb
  cases d with
  | map kt el =>
    simp only at e
    obtain ⟨kd, _, e⟩ := withU_eq e hb
    cases hf : fkD kd with
    | none => rw [hf] at e; exact absurd e.symm hb
    | some fk => rw [hf] at e; exact ⟨fk, e.symm⟩
  | _ => exact absurd e.symm hb
theorem form_delete {ty : TypeId} {m k : AOpd} (e : cDelete P ty m k = q) (hb : q ≠ .bad) : ∃ fk, q = .m3 (.delete fk m k) := by
  unfold cDelete at e
  obtain ⟨d, _, e⟩ := withU_eq e hb
  cases d with
  | map kt el =>
    simp only at e
    obtain ⟨kd, _, e⟩ := withU_eq e hb
    cases hf : fkD kd with
    | none => rw [hf] at e; exact absurd e.symm hb
    | some fk => rw [hf] at e; exact ⟨fk, e.symm⟩
  | _ => exact absurd e.symm hb
theorem form_range {ty : TypeId} {x : AOpd} (e : cRange P ty x = q) (hb : q ≠ .bad) : ∃ st, q = .m3 (.range st x) := by
  unfold cRange at e
  obtain ⟨d, _, e⟩ := withU_eq e hb
  cases d with
  | string => exact ⟨true, e.symm⟩
  | map a b => exact ⟨false, e.symm⟩
  | _ => exact absurd e.symm hb
theorem form_clear {ty : TypeId} {x : AOpd} (e : cClear P ty x = q) (hb : q ≠ .bad) : ∃ z, q = .m3 (.clear z x) := by
  unfold cClear at e
  obtain ⟨d, _, e⟩ := withU_eq e hb
  cases d with
  | slice el =>
    simp only at e
    obtain ⟨i, _, e⟩ := withT_eq e hb
    obtain ⟨zv, zx, _, _, e⟩ := zeroI_eq e hb
    exact ⟨_, e.symm⟩
  | _ => exact absurd e.symm hb
theorem form_copy {ty : TypeId} {x y : AOpd} (e : cCopy P ty x y = q) (hb : q ≠ .bad) : ∃ n, q = .m2 (.copy n x y) := by
  unfold cCopy at e
  obtain ⟨d, _, e⟩ := withU_eq e hb
  cases d with
  | slice el =>
    simp only at e
    obtain ⟨i, _, e⟩ := withT_eq e hb
    exact ⟨_, e.symm⟩
  | _ => exact absurd e.symm hb
theorem form_append {ta tb : TypeId} {x y : AOpd} (e : cAppend P ta tb x y = q) (hb : q ≠ .bad) : ∃ n m tg, q = .m1 (.append n m tg x y) := by
  unfold cAppend at e
  obtain ⟨d, _, e⟩ := withU_eq e hb
  obtain ⟨d', _, e⟩ := withU_eq e hb
  split at e
  · exact absurd e.symm hb
  · obtain ⟨i, _, e⟩ := withT_eq e hb
    revert e
    generalize (Nat.ble 1 i.size && Nat.ble 1 i.bytes && match i.zero with | some z => z.cells.size == i.size | none => false) = b
    cases b <;> intro e
    · exact absurd e.symm hb
    · exact ⟨_, _, _, e.symm⟩
  · exact absurd e.symm hb
theorem form_makeSlice {ty : TypeId} {l c : AOpd} (e : cMakeSlice P ty l c = q) (hb : q ≠ .bad) : ∃ z b, q = .m2 (.mkSlice z b l c) := by
  unfold cMakeSlice at e
  obtain ⟨d, _, e⟩ := withU_eq e hb
  cases d with
  | slice el =>
    simp only at e
    obtain ⟨i, _, e⟩ := withT_eq e hb
    obtain ⟨zv, zx, _, _, e⟩ := zeroI_eq e hb
    split at e
    · exact ⟨_, _, e.symm⟩
    · exact absurd e.symm hb
  | _ => exact absurd e.symm hb
theorem form_buildSlice {ty : TypeId} {n : Nat} {ps : Array (Nat × Operand)} (e : cBuildSlice P ty n ps = q) (hb : q ≠ .bad) : ∃ z m l, q = .m2 (.buildSlice z m l) := by
  unfold cBuildSlice at e
  obtain ⟨d, _, e⟩ := withU_eq e hb
  cases d with
  | slice el =>
    simp only at e
    obtain ⟨i, _, e⟩ := withT_eq e hb
    obtain ⟨zv, zx, _, _, e⟩ := zeroI_eq e hb
    split at e
    · exact ⟨_, _, _, e.symm⟩
    · exact absurd e.symm hb
  | _ => exact absurd e.symm hb
theorem form_slice {ty : TypeId} {x : AOpd} {lo hi mx : Option AOpd} (e : cSlice P ty x lo hi mx = q) (hb : q ≠ .bad) : (∃ n, q = .m2 (.sliceSl n x lo hi mx)) ∨ ∃ p, q = .p3 p := by
  unfold cSlice at e
  obtain ⟨d, _, e⟩ := withU_eq e hb
  cases d with
  | slice el =>
    simp only at e
    obtain ⟨i, _, e⟩ := withT_eq e hb
    split at e
    · exact .inl ⟨_, e.symm⟩
    · exact absurd e.symm hb
  | string => exact .inr ⟨_, e.symm⟩
  | array n el =>
    simp only at e
    obtain ⟨i, _, e⟩ := withT_eq e hb
    exact .inr ⟨_, e.symm⟩
  | _ => exact absurd e.symm hb
theorem form_convert {s d : TypeId} {x : AOpd} (e : cConvert P s d x = q) (hb : q ≠ .bad) : q = .m2 (.toBytes x) ∨ q = .m2 (.ofBytes x) ∨ ∃ p, q = .p3 p := by
  unfold cConvert at e
  obtain ⟨a, _, e⟩ := withU_eq e hb
  obtain ⟨b, _, e⟩ := withU_eq e hb
  split at e <;> first
    | exact .inr (.inr ⟨_, e.symm⟩)
    | exact absurd e.symm hb
    | (obtain ⟨c, _, e⟩ := withU_eq e hb; split at e <;> first | exact .inl e.symm | exact .inr (.inl e.symm) | exact absurd e.symm hb)
theorem form_len {ty : TypeId} {x : AOpd} (e : cLen P ty x = q) (hb : q ≠ .bad) : (∃ k, q = .m1 (.len k x)) ∨ ∃ p, q = .p1 p := by
  unfold cLen at e
  obtain ⟨a, _, e⟩ := withU_eq e hb
  split at e <;> first
    | exact .inl ⟨_, e.symm⟩
    | exact .inr ⟨_, e.symm⟩
    | exact absurd e.symm hb
    | (obtain ⟨c, _, e⟩ := withU_eq e hb; split at e <;> first | exact .inr ⟨_, e.symm⟩ | exact absurd e.symm hb)
theorem arg_at (args : Array Operand) {a : AOpd} {l : List AOpd} {i : Nat} (e : (args.toList.map opd)[i]? = some a) : ∃ o, args[i]? = some o ∧ a = opd o ∧ (args.map ρ)[i]? = some (ρ o) := by
  simp only [List.getElem?_map, Array.getElem?_toList, Option.map_eq_some_iff] at e
  obtain ⟨o, ho, rfl⟩ := e
  exact ⟨o, ho, rfl, by simp [ho]⟩
theorem ty_at {ts : Array TypeId} {l : List TypeId} (e : ts.toList = l) (i : Nat) : ts[i]? = l[i]? := by rw [← Array.getElem?_toList, e]
theorem memV_u {s : Sem Unit} (hz : z = .undef ∧ MemU P r h w s h') : MemOf P r h w (do s; pure Next.skip) z h' := by
  obtain ⟨rfl, h⟩ := hz; exact memOf_unit h
theorem gives_mem {s : Sem Value} (hr : Rel P r h w) (g : h' = h ∧ Gives P r w s z) : MemV P r h w s z h' := by obtain ⟨rfl, g⟩ := g; exact memV_gives hr g

theorem builtin_mem (hE : EnvR r t ρ) (hr : Rel P r h w) (b : Builtin) (ts : Array TypeId) (args : Array Operand) (ty : TypeId) (cs : Array Bool)
    (e : memQ t h (cBuiltin P b ts (args.toList.map opd)) = .v z h') : MemOf P r h w (builtin b ts ty cs (args.map ρ)) z h' := by
  have hb := memQ_bad e
  generalize hq : cBuiltin P b ts (args.toList.map opd) = q at e hb
  have a0 : ∀ {x : AOpd} {l : List AOpd}, args.toList.map opd = x :: l → ∃ o, x = opd o ∧ (args.map ρ)[0]? = some (ρ o) := by
    intro x l hl
    obtain ⟨o, _, h2, h3⟩ := arg_at (ρ := ρ) (l := l) args (i := 0) (a := x) (by rw [hl]; rfl)
    exact ⟨o, h2, h3⟩
  have a1 : ∀ {x y : AOpd} {l : List AOpd}, args.toList.map opd = x :: y :: l → ∃ o, y = opd o ∧ (args.map ρ)[1]? = some (ρ o) := by
    intro x y l hl
    obtain ⟨o, _, h2, h3⟩ := arg_at (ρ := ρ) (l := l) args (i := 1) (a := y) (by rw [hl]; rfl)
    exact ⟨o, h2, h3⟩
  unfold cBuiltin at hq
  split at hq
  · rename_i s x ta tb tl e1 e2
    obtain ⟨o1, rfl, g1⟩ := a0 e1
    obtain ⟨o2, rfl, g2⟩ := a1 e1
    obtain ⟨n, m, tg, rfl⟩ := form_append hq hb
    exact memOf_of (append_ok hr hq (hE o1) (hE o2) e ts (args.map ρ) (ty_at e2 0) (ty_at e2 1) g1 g2 ty)
  · rename_i s x ta tl e1 e2
    obtain ⟨o1, rfl, g1⟩ := a0 e1
    obtain ⟨o2, rfl, g2⟩ := a1 e1
    obtain ⟨n, rfl⟩ := form_copy hq hb
    exact memOf_of (copy_ok hr (o1 := opd o1) (o2 := opd o2) hq (hE o1) (hE o2) e ts (args.map ρ) (ty_at e2 0) g1 g2 ty)
  · rename_i x ta tl e1 e2
    obtain ⟨o1, rfl, g1⟩ := a0 e1
    obtain ⟨n, rfl⟩ := form_clear hq hb
    exact memOf_of (clear_ok hr hq (hE o1) e ts (args.map ρ) (ty_at e2 0) g1 ty)
  · rename_i x ta tl e1 e2
    obtain ⟨o1, rfl, g1⟩ := a0 e1
    rcases form_len hq hb with ⟨k, rfl⟩ | ⟨p, rfl⟩
    · exact memOf_of (gives_mem hr (len_ok hr (hE o1) hq e ts (args.map ρ) (ty_at e2 0) g1 ty))
    · simp [memQ] at e
  · subst hq; simp [memQ] at e
  · subst hq; simp [memQ] at e
  · rename_i m k ta tl e1 e2
    obtain ⟨o1, rfl, g1⟩ := a0 e1
    obtain ⟨o2, rfl, g2⟩ := a1 e1
    obtain ⟨fk, rfl⟩ := form_delete hq hb
    exact memOf_of (delete_ok hr hq (hE o1) (hE o2) e ts (args.map ρ) (ty_at e2 0) g1 g2 ty)
  · subst hq; simp [memQ] at e
  · exact absurd hq.symm hb

theorem mem_exec (hE : EnvR r t ρ) (hr : Rel P r h w) (o : Oper) (e : memQ t h (cop P o.op) = .v z h') : MemOf P r h w (execOp ρ o) z h' := by
  obtain ⟨dst, op, type, pos, after, guard⟩ := o
  simp only at e
  have hb := memQ_bad e
  generalize hq : cop P op = q at e hb
  cases op with
  | alloc ty =>
    obtain ⟨i, hi, hq⟩ := withT_eq (show (withT P ty fun i => zeroI i fun z => .m1 (.alloc (tagA ty) z.cells)) = q from hq) hb
    obtain ⟨zv, zx, hz, hzx, rfl⟩ := zeroI_eq hq hb
    exact memOf_of (alloc_ok hr hi hz hzx e)
  | box ty x =>
    have hq : AOp.m1 (.box (opd x)) = q := hq
    subst hq
    exact memOf_of (box_ok hr ty (hE x) e)
  | buildSlice ty n ps =>
    have hq : cBuildSlice P ty n ps = q := hq
    obtain ⟨zl, m, l, rfl⟩ := form_buildSlice hq hb
    exact memOf_of (buildSlice_ok hE hr hq e)
  | load ty a =>
    obtain ⟨i, hi, hq⟩ := withT_eq (show (withT P ty fun i => withU P ty fun d => .m1 (.load i.size (aggD d) (opd a))) = q from hq) hb
    obtain ⟨d, hd, rfl⟩ := withU_eq hq hb
    exact memOf_of (gives_mem hr (load_ok hr hi hd (hE a) e))
  | store ty a x =>
    obtain ⟨i, hi, rfl⟩ := withT_eq (show (withT P ty fun i => .m1 (.store i.size (opd a) (opd x))) = q from hq) hb
    exact store_ok hr hi (hE a) (hE x) e
  | convert s d x =>
    have hq : cConvert P s d (opd x) = q := hq
    rcases form_convert hq hb with rfl | rfl | ⟨p, rfl⟩
    · exact memOf_of (toBytes_ok hr (hE x) hq e)
    · exact memOf_of (gives_mem hr (ofBytes_ok hr (hE x) hq e))
    · simp [memQ] at e
  | makeMap ty res =>
    cases res with
    | none =>
      have hq : AOp.m2 .mkMap = q := hq
      subst hq
      exact memOf_of (mkMap_ok hr ty e)
    | some x => exact absurd (show AOp.bad = q from hq).symm hb
  | makeSlice ty l c =>
    have hq : cMakeSlice P ty (opd l) (opd c) = q := hq
    obtain ⟨zl, b, rfl⟩ := form_makeSlice hq hb
    exact memOf_of (mkSlice_ok hr hq (hE l) (hE c) e)
  | slice ty x lo hi mx =>
    have hq : cSlice P ty (opd x) (lo.map opd) (hi.map opd) (mx.map opd) = q := hq
    rcases form_slice hq hb with ⟨n, rfl⟩ | ⟨p, rfl⟩
    · obtain ⟨el, i, hu, hi', rfl, h0⟩ := cSlice_sl hq
      exact memOf_of (gives_mem hr (sliceSl_ok hr hu hi' h0 (hE x) (evOo_opt hE lo) (evOo_opt hE hi) (evOo_opt hE mx) e))
    · simp [memQ] at e
  | lookup ty x k ok =>
    have hq : cLookup P ty (opd x) (opd k) ok = q := hq
    obtain ⟨fk, zz, rfl⟩ := form_lookup hq hb
    exact memOf_of (gives_mem hr (lookup_ok hr hq (hE x) (hE k) e))
  | mapUpdate ty m k x =>
    have hq : cMapUpdate P ty (opd m) (opd k) (opd x) = q := hq
    obtain ⟨fk, rfl⟩ := form_mapUpdate hq hb
    exact memV_u (mapUpdate_ok hr hq (hE m) (hE k) (hE x) e)
  | insert ty m k x =>
    have hq : cMapUpdate P ty (opd m) (opd k) (opd x) = q := hq
    obtain ⟨fk, rfl⟩ := form_mapUpdate hq hb
    exact memV_u (mapUpdate_ok hr hq (hE m) (hE k) (hE x) e)
  | mapEntry ty m k =>
    have hq : cMapEntry P ty (opd m) (opd k) = q := hq
    obtain ⟨fk, zz, rfl⟩ := form_mapEntry hq hb
    exact memOf_of (mapEntry_ok hr hq (hE m) (hE k) e)
  | entryStore ty m s x =>
    have hq : AOp.m3 (.entryStore (opd m) (opd s) (opd x)) = q := hq
    subst hq
    exact memV_u (entryStore_ok hr ty (hE m) (hE s) (hE x) e)
  | range ty x =>
    have hq : cRange P ty (opd x) = q := hq
    obtain ⟨st, rfl⟩ := form_range hq hb
    exact memOf_of (range_ok hr hq (hE x) e)
  | next x st =>
    have hq : AOp.m3 (.next (opd x) st) = q := hq
    subst hq
    exact memOf_of (next_ok hr st type (hE x) e)
  | entry x =>
    have hq : AOp.m3 (.entry (opd x)) = q := hq
    subst hq
    exact memOf_of (entry_ok hr (hE x) e)
  | call c =>
    have hq : cCall P c = q := hq
    unfold cCall at hq
    obtain ⟨callee, args, argTypes⟩ := c
    cases callee with
    | value f => simp only at hq; subst hq; simp [memQ] at e
    | invoke f n => simp only at hq; subst hq; simp [memQ] at e
    | builtin b =>
      simp only at hq
      subst hq
      exact builtin_mem hE hr b argTypes args type _ e
  | move x => exact absurd e (by have hq : AOp.p1 _ = q := hq; subst hq; simp [memQ])
  | assign x => exact absurd e (by have hq : AOp.p1 _ = q := hq; subst hq; simp [memQ])
  | pick c a b => exact absurd e (by have hq : AOp.p1 _ = q := hq; subst hq; simp [memQ])
  | nilCheck x => exact absurd e (by have hq : AOp.p1 _ = q := hq; subst hq; simp [memQ])
  | extract x i => exact absurd e (by have hq : AOp.p1 _ = q := hq; subst hq; simp [memQ])
  | unOp op ty x => exact absurd e (by have hq : AOp.p2 _ = q := hq; subst hq; simp [memQ])
  | panic x => exact absurd e (by have hq : AOp.panic _ = q := hq; subst hq; simp [memQ])
  | build ty ps =>
    have hq : cBuild P ty ps = q := hq
    unfold cBuild at hq
    obtain ⟨d, _, hq⟩ := withU_eq hq hb
    obtain ⟨i, _, hq⟩ := withT_eq hq hb
    obtain ⟨zv, zx, _, _, hq⟩ := zeroI_eq hq hb
    cases d with
    | struct fs => simp only at hq; split at hq <;> first | exact absurd hq.symm hb | (split at hq <;> first | exact absurd hq.symm hb | (subst hq; simp [memQ] at e))
    | array n el => simp only at hq; obtain ⟨i, _, hq⟩ := withT_eq hq hb; subst hq; simp [memQ] at e
    | _ => exact absurd hq.symm hb
  | binOp op ty x y yt =>
    have hq : cBinOp P op ty x y = q := hq
    have key : ∀ neg c, cEq P op neg ty c (opd x) (opd y) = q → False := by
      intro neg c hq
      unfold cEq at hq
      obtain ⟨d, _, hq⟩ := withU_eq hq hb
      cases d with
      | pointer el =>
        simp only at hq
        obtain ⟨i, _, hq⟩ := withT_eq hq hb
        cases hz : Nat.beq i.size 0 <;> rw [hz] at hq <;> first | (simp only [cond_false] at hq; subst hq; simp [memQ] at e; done) | exact absurd hq.symm hb
      | struct fs =>
        simp only at hq
        revert hq
        generalize (P.eqGuardType P.depth ty || P.stoodInHeld ty) = b
        cases b <;> intro hq
        · simp only [cond_false] at hq; split at hq <;> first | (subst hq; simp [memQ] at e; done) | exact absurd hq.symm hb
        · exact absurd hq.symm hb
      | _ => first | exact absurd hq.symm hb | (simp only at hq; subst hq; simp [memQ] at e)
    unfold cBinOp at hq
    split at hq
    · exact (key _ _ hq).elim
    · exact (key _ _ hq).elim
    · subst hq; simp [memQ] at e
  | makeInterface ty x =>
    have hq : cMkIface P ty (opd x) = q := hq
    unfold cMkIface at hq
    obtain ⟨d, _, hq⟩ := withU_eq hq hb
    split at hq
    · exact absurd hq.symm hb
    · subst hq; simp [memQ] at e
  | makeFunc fn a b =>
    have hq : (bif isYield fn then AOp.bad else .p2 (.mkFunc fn (a.toList.map opd) (b.toList.map opd))) = q := hq
    cases hy : isYield fn <;> rw [hy] at hq
    · simp only [cond_false] at hq; subst hq; simp [memQ] at e
    · exact absurd hq.symm hb
  | fieldAddr ty x f =>
    have hq : cFieldAddr P ty (opd x) f = q := hq
    unfold cFieldAddr at hq
    obtain ⟨d, _, hq⟩ := withU_eq hq hb
    cases d with
    | struct fs =>
      simp only at hq
      split at hq
      · obtain ⟨i, _, hq⟩ := withT_eq hq hb
        cases hz : Nat.beq i.size 0 <;> rw [hz] at hq <;> first | (simp only [cond_false] at hq; subst hq; simp [memQ] at e; done) | exact absurd hq.symm hb
      · exact absurd hq.symm hb
    | _ => exact absurd hq.symm hb
  | field ty x f =>
    have hq : cField P ty (opd x) f = q := hq
    unfold cField at hq
    obtain ⟨d, _, hq⟩ := withU_eq hq hb
    cases d with
    | struct fs =>
      simp only at hq
      split at hq
      · obtain ⟨i, _, hq⟩ := withT_eq hq hb
        obtain ⟨u, _, hq⟩ := withU_eq hq hb
        subst hq; simp [memQ] at e
      · exact absurd hq.symm hb
    | _ => exact absurd hq.symm hb
  | indexAddr ty x i =>
    have hq : cIndexAddr P ty (opd x) (opd i) = q := hq
    unfold cIndexAddr at hq
    obtain ⟨d, _, hq⟩ := withU_eq hq hb
    cases d with
    | array n el => simp only at hq; obtain ⟨i, _, hq⟩ := withT_eq hq hb; subst hq; simp [memQ] at e
    | slice el => simp only at hq; obtain ⟨i, _, hq⟩ := withT_eq hq hb; subst hq; simp [memQ] at e
    | _ => exact absurd hq.symm hb
  | index ty x i =>
    have hq : cIndex P ty (opd x) (opd i) = q := hq
    unfold cIndex at hq
    obtain ⟨d, _, hq⟩ := withU_eq hq hb
    cases d with
    | array n el => simp only at hq; obtain ⟨i, _, hq⟩ := withT_eq hq hb; obtain ⟨u, _, hq⟩ := withU_eq hq hb; subst hq; simp [memQ] at e
    | string => simp only at hq; subst hq; simp [memQ] at e
    | _ => exact absurd hq.symm hb
  | typeAssert x xt ty ok =>
    have hq : cTypeAssert P (opd x) ty ok = q := hq
    unfold cTypeAssert at hq
    obtain ⟨d, _, hq⟩ := withU_eq hq hb
    obtain ⟨i, _, hq⟩ := withT_eq hq hb
    obtain ⟨zv, zx, _, _, hq⟩ := zeroI_eq hq hb
    subst hq; simp [memQ] at e
  | defer c =>
    have hq : cDefer c = q := hq
    unfold cDefer at hq
    split at hq
    · subst hq; simp [memQ] at e
    · exact absurd hq.symm hb
  | _ => exact absurd (show AOp.bad = q from hq).symm hb
end
end Go.AM
