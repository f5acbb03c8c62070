/- The law of the server that is none answers true. -/
import Derived.Test.YtnedikjioliodaaGreatDoorNx2
import Derived.Test.YtnedikjioliodaaGreatDoorNx1
set_option linter.all false
namespace Go.Proofs.Ea
open Go Go.AM
set_option maxRecDepth 100000
noncomputable def nats4 : List (Nat × (List AV → H → QR)) := [(12, nLight), (8, nWorks 310 4 25)]
theorem sn_run : retOk (AM.run (ctable Tryz.prog nats4) 1000 4 [.agg [.sym 0, .sym 1, .sym 2, .sym 3, .sym 4], .sym 6] (heapL os0 2 1)) (.bool true) os0 5 1 = true := by kernel_rfl
@[reducible] noncomputable def envSn (k who n : Int) (ok : Bool) (s : ByteArray) (i : Int) (O : Go.Obj) : Env where
  val := fun m => match m with
    | 0 => .int .i64 k
    | 1 => .int .i64 who
    | 2 => .int .i64 n
    | 3 => .bool ok
    | 4 => .string s
    | 5 => .string (lightS s)
    | 6 => .int .i64 i
    | _ => .nilIface
  one := by intro m; split <;> rfl
  fix := O
theorem serverNone_calls (k who n : Int) (ok : Bool) (s : ByteArray) (hs : s.size ≤ 140737488351232) (i : Int) (w : World) (hg : GlobOk 310 4 25 w) :
    Calls Tryz.prog 4 #[.agg #[.int .i64 k, .int .i64 who, .int .i64 n, .bool ok, .string s], .int .i64 i] w fun e w' => e = .returned (.bool true) ∧ Junk w w' := by
  have hlt : 0 < w.heap.size := World.block_lt_of_cell? (a := ⟨0, 0, none⟩) _ hg
  letI E : Env := envSn k who n ok s i w.heap[0]
  have h1 : w.heap[0]? = some Env.fix := Array.getElem?_eq_getElem hlt
  have hnat : ∀ fi g, nats4.lookup fi = some g → NatOk Tryz.prog fi g := by
    intro fi g h
    unfold nats4 at h
    simp only [List.lookup] at h
    split at h
    · rename_i e
      have e : fi = 12 := by simpa using e
      subst e
      injection h with h; subst h
      obtain ⟨b, hb⟩ := body_of (fn := Tryz.f12) (by kernel_rfl)
      exact light_nat named Tryz.func12 hb (fun w => light_walk k who n ok s hs w)
    · split at h
      · rename_i e
        have e : fi = 8 := by simpa using e
        subst e
        injection h with h; subst h
        obtain ⟨b, hb⟩ := body_of (fn := Tryz.f8) (by kernel_rfl)
        exact works_nat named Tryz.func8 hb (fun w hg => works_ok hg)
      · simp at h
  refine (run_calls_sub fol named nats4 hnat 1000 (args' := #[.agg #[.int .i64 k, .int .i64 who, .int .i64 n, .bool ok, .string s], .int .i64 i]) rfl (rel0 h1 hg) ?_ sn_run).mono ?_
  · exact .cons _ _ _ _ (.agg _ _ (.cons _ _ _ _ (.sym 0) (.cons _ _ _ _ (.sym 1) (.cons _ _ _ _ (.sym 2) (.cons _ _ _ _ (.sym 3) (.cons _ _ _ _ (.sym 4) .nil)))))) (.cons _ _ _ _ (.sym 6) .nil)
  · rintro e w' ⟨r', v', rfl, hv, hr, hk⟩
    have := hv.inv_bool; subst this
    exact ⟨rfl, kept_of h1 hr hk⟩
end Go.Proofs.Ea
