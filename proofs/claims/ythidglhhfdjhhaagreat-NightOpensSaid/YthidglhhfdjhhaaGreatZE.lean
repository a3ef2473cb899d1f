import Derived.Test.YthidglhhfdjhhaaGreatZD
import Derived.WideShapes
/- The framework, part E: an evaluator of the model over an abstract heap, and its soundness. -/
set_option linter.unusedSimpArgs false
set_option linter.unusedVariables false
section
namespace Go.Wz
open Go.ChangeShapes Go.WideShapes Go.ChangeAt Go.RowKit
variable {P : Program} {H0 : Type} {enc : TypeId × Value → H0} {w : World}

def argKind (P : Program) (m : Nat) (t : TypeId) : Option (Bool × List Kd) :=
  match P.underlying t with
  | some (.struct _) => (kindsN P m t).map fun ks => (true, ks)
  | some (.int _) | some .bool | some (.slice _) => (kindsN P m t).map fun ks => (false, ks)
  | _ => none
def argKinds (P : Program) (m : Nat) : List TypeId → Option (List (Bool × List Kd))
  | [] => some []
  | t :: ts => (argKind P m t).bind fun k => (argKinds P m ts).map (k :: ·)
def ArgOK (h : H) (k : Bool × List Kd) (v : SV) : Prop :=
  match k.1 with
  | true => ∃ as, v = .agg as ∧ OkR h k.2 as
  | false => ∃ a, v = .one a ∧ OkR h k.2 [a]
def ArgsOK (h : H) : List (Bool × List Kd) → List SV → Prop
  | [], l => l = []
  | k :: ks, l => ∃ v t, l = v :: t ∧ ArgOK h k v ∧ ArgsOK h ks t
theorem arg_one {m : Nat} {t : TypeId} {ks : List Kd} {v : Value} {d : DataW H0} {ps : List MemPlace} (hk : kindsN P m t = some ks) (hc : v.cells = #[v]) (h : DataW.Trod enc P w 0 (fun _ => true) true t v d ps) :
    ∃ sv, SR (injW w) sv v ∧ ArgOK (HW w) (false, ks) sv := by
  obtain ⟨fuel, h⟩ := h
  rw [hc] at h
  obtain ⟨as, g⟩ := open_all m t ks fuel true [v] (d, ps) hk h
  have h1 := g.2.2.len
  have h2 := g.1
  obtain ⟨a, ha⟩ : ∃ a, as = [a] := by
    match as, h1 with
    | [a], _ => exact ⟨a, rfl⟩
    | [], h1 => simp at h1 h2; omega
    | _ :: _ :: _, h1 => simp at h1 h2; omega
  subst ha
  obtain ⟨a', e1, e2⟩ := g.2.1 0 v rfl
  simp at e1; subst e1
  exact ⟨.one a, .one (absV_ok e2), a, rfl, g.2.2⟩
theorem arg_open {m : Nat} {t : TypeId} {k : Bool × List Kd} {v : Value} {d : DataW H0} {ps : List MemPlace} {base : Nat} (hk : argKind P m t = some k) (hv : Value.okWide P w .any base t v) (h : DataW.Trod enc P w 0 (fun _ => true) true t v d ps) :
    ∃ sv, SR (injW w) sv v ∧ ArgOK (HW w) k sv := by
  unfold argKind at hk
  split at hk
  · rename_i fs hu
    obtain ⟨ks, hk1, rfl⟩ := Option.map_eq_some_iff.1 hk
    unfold Value.okWide at hv
    rw [hu] at hv
    obtain ⟨cs, rfl, _, _⟩ := hv
    obtain ⟨fuel, h⟩ := h
    obtain ⟨as, g⟩ := open_all m t ks fuel true _ (d, ps) hk1 h
    exact ⟨.agg as, .agg g.vrs, as, rfl, g.2.2⟩
  · rename_i k hu
    obtain ⟨ks, hk1, rfl⟩ := Option.map_eq_some_iff.1 hk
    obtain ⟨n, rfl⟩ := okWide_int hu hv
    exact arg_one hk1 rfl h
  · rename_i hu
    obtain ⟨ks, hk1, rfl⟩ := Option.map_eq_some_iff.1 hk
    obtain ⟨b, rfl⟩ := okWide_bool hu hv
    exact arg_one hk1 rfl h
  · rename_i e hu
    obtain ⟨ks, hk1, rfl⟩ := Option.map_eq_some_iff.1 hk
    obtain ⟨a, n, c, rfl⟩ := okWide_slice hu hv
    exact arg_one hk1 rfl h
  · cases hk
theorem args_open {m base : Nat} : ∀ {ts : List TypeId} {vs : List Value} {ds : List (DataW H0)} {ps : List MemPlace} {ks : List (Bool × List Kd)}, argKinds P m ts = some ks →
    (∀ (j : Nat) t v, ts[j]? = some t → vs[j]? = some v → Value.okWide P w .any base t v) → DataW.TrodAll enc P w 0 (fun _ => true) true ts vs ds ps → ds.length = ts.length ∧ ∃ svs, SRs (injW w) svs vs ∧ ArgsOK (HW w) ks svs
  | [], [], [], _, ks, hk, _, _ => by simp only [argKinds, Option.some.injEq] at hk; subst hk; exact ⟨rfl, [], .nil, by unfold ArgsOK; rfl⟩
  | t :: ts, v :: vs, d :: ds, ps, ks, hk, hv, h => by
    simp only [argKinds, Option.bind_eq_some_iff, Option.map_eq_some_iff] at hk
    obtain ⟨k, h1, ks', h2, rfl⟩ := hk
    obtain ⟨p, q, h3, h4, _⟩ := h
    obtain ⟨sv, a1, a2⟩ := arg_open h1 (hv 0 t v rfl rfl) h3
    obtain ⟨hl, svs, b1, b2⟩ := args_open h2 (fun j t v e1 e2 => hv (j + 1) t v (by simpa using e1) (by simpa using e2)) h4
    exact ⟨by simp [hl], sv :: svs, .cons a1 b1, by unfold ArgsOK; exact ⟨sv, svs, rfl, a2, b2⟩⟩
  | [], _ :: _, _, _, _, _, _, h => h.elim
  | [], [], _ :: _, _, _, _, _, h => h.elim
  | _ :: _, [], _, _, _, _, _, h => h.elim
  | _ :: _, _ :: _, [], _, _, _, _, h => h.elim

/-- the contract of a law that answers true over the evaluator -/
theorem law_contract (hn : NamesOK P) (hmix : P.follows .mixedOrders = true) (hl : laidOutB P = true) {hints : FuncId → Hint} {N m : Nat} {call : CallT} (hc : ∀ B, CallOK P B call) {fid : FuncId} {fd : Func} {s : ChangeSpec} {tb : TypeId}
    (hres : fd.resultTypes = #[tb]) (hb : P.underlying tb = some .bool) (hvars : s.vars = []) (hr : fd.params.toList.all (fun t => P.readableRec t && decide (t < P.types.size)) = true)
    (hfn : ∀ ds : List (DataW H0), ds.length = fd.params.toList.length → s.fn H0 (ds ++ []) = { results := [.lit (.bool true)], args := ds })
    {ks : List (Bool × List Kd)} (hk : argKinds P m fd.params.toList = some ks)
    (hexec : ∀ (w : World) (svs : List SV), ArgsOK (HW w) ks svs → ∃ h', execF P call hints N fid svs (HW w) = some (.one (.bool true), h'))
    (W : World) (base : Nat) (args : Array Value) (ds gs : List (DataW H0)) (before : List MemPlace)
    (hval : ∀ (j : Nat) t v, fd.params[j]? = some t → args[j]? = some v → Value.okWide P W .any base t v)
    (hW : DataW.Whole enc P fd.params.toList s.vars false W args.toList ds gs before) :
    Calls P fid args W fun e W' => ∃ v, e = .returned v ∧ s.post enc P fd false true false false W args v W' := by
  have hW' := hW
  obtain ⟨p, q, hA0, hV, rfl, hfz, hnd⟩ := hW
  have hA : DataW.TrodAll enc P W 0 (fun _ => true) true fd.params.toList args.toList ds p := hA0
  rw [hvars] at hV
  obtain ⟨rfl, rfl⟩ := trodVars_none hV
  obtain ⟨hlen, svs, h1, h2⟩ := args_open (m := m) (base := base) hk (fun j t v e1 e2 => hval j t v (by simpa using e1) (by simpa using e2)) hA
  obtain ⟨h', e⟩ := hexec W svs h2
  have hB := law_calls hn hmix hc e h1
  refine hB.mono fun e W' ⟨he, hB⟩ => ?_
  subst he
  exact ⟨_, rfl, law_post (tb := tb) hl hres hb hvars hr (hfn ds hlen) hW' hB⟩
end Go.Wz
end
