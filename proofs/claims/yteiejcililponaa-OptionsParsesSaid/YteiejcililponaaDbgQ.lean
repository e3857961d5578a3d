/- Workbench only: never in a claim. 'sy_where' prints where the walk stands. -/
import Derived.Test.YteiejcililponaaBEN
import Lean
set_option linter.unusedVariables false
set_option linter.unusedSimpArgs false
open Lean Elab Tactic Meta
elab "sy_where" : tactic => do
  for g in ← getGoals do
    g.withContext do
      let t ← instantiateMVars (← g.getType)
      let t := t.consumeMData
      let args := t.getAppArgs
      let n := t.getAppFn.constName?.getD `none
      let mut hyps : Array MessageData := #[]
      for d in ← getLCtx do
        if d.isImplementationDetail then continue
        if ← isProp d.type then hyps := hyps.push m!"{d.userName} : {d.type}"
      let mut body := m!"{t}"
      if n.toString.endsWith ".Sy" || n.toString.endsWith ".Leave" then
        let off := if n.toString.endsWith ".Sy" then 2 else 3
        let k := args[off]!
        let fr := args[off+1]!
        let hp := args[off+2]!
        let head : MessageData := if k.isAppOfArity ``List.cons 3 then
            let it := k.getAppArgs[1]!
            let nm := it.getAppFn.constName?.getD `none
            if nm.toString.endsWith ".o" then
              let l := it.getAppArgs[1]!
              if l.isAppOfArity ``List.cons 3 then m!"op {l.getAppArgs[1]!}" else m!"ops {l}"
            else if nm.toString.endsWith ".c" then
              let c := it.getAppArgs[0]!
              let cn := c.getAppFn.constName?.getD `none
              if cn == ``Go.Code.cond then m!"cond {c.getAppArgs[0]!}" else if cn == ``Go.Code.loop then m!"LOOP" else if cn == ``Go.Code.region then m!"region DRAWS? {c.getAppArgs[0]!} {c.getAppArgs[2]!}" else m!"code {cn}"
            else m!"item {nm}"
          else m!"done {k}"
        body := m!"AT {n} {head}\nFR {fr}\nHP {hp}"
      else if n.toString.endsWith ".DrE" then
        let l ← whnf args[5]!
        let h := if l.isAppOfArity ``List.cons 3 then m!"op {l.getAppArgs[1]!}" else m!"{l}"
        body := m!"DRE {h}\nFR {args[6]!}\nHC {args[3]!}\nHP {args[7]!}"
      else if n.toString.endsWith ".DrG" then
        let l ← whnf args[5]!
        let h := if l.isAppOfArity ``List.cons 3 then m!"op {l.getAppArgs[1]!}" else m!"{l}"
        body := m!"DR {h}\nFR {args[6]!}"
      logInfo m!"{MessageData.joinSep hyps.toList "\n"}\n⊢ {body}"
